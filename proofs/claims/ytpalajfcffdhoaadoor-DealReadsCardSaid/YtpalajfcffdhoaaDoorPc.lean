/- How many ones a number of 64 bits has, as math/bits counts them, is how many bits are set. -/
import Derived.Test.YtpalajfcffdhoaaDoorDm
namespace Go.Deal
theorem and_split (a M c : Nat) (hc : c < 256) : a &&& (256 * M + c) = 256 * (a / 256 &&& M) + (a % 256 &&& c) := by
  have h1 : (a % 256 &&& c) < 2 ^ 8 := Nat.lt_of_le_of_lt Nat.and_le_right hc
  refine Nat.eq_of_testBit_eq fun i => ?_
  rw [Nat.testBit_and, show 256 = 2 ^ 8 by decide, Nat.testBit_two_pow_mul_add _ (show c < 2 ^ 8 from hc), Nat.testBit_two_pow_mul_add _ h1]
  split
  · rename_i hi
    have e : (a % 256).testBit i = a.testBit i := by rw [show 256 = 2 ^ 8 by decide, Nat.testBit_mod_two_pow, decide_eq_true hi, Bool.true_and]
    rw [Nat.testBit_and]
    first | rw [e] | (rw [show (2 : Nat) ^ 8 = 256 by decide, e])
  · rename_i hi
    rw [Nat.testBit_and, Nat.testBit_div_two_pow, show i - 8 + 8 = i by omega]
def h1 (x M : Nat) : Nat := (x / 2 &&& M) + (x &&& M)
def h2 (x M : Nat) : Nat := (x / 4 &&& M) + (x &&& M)
def h3 (x M : Nat) : Nat := (x / 16 + x) &&& M
def p1 (b : Nat) : Nat := (b / 2 &&& 85) + (b &&& 85)
def p2 (b : Nat) : Nat := (b / 4 &&& 51) + (b &&& 51)
def p3 (b : Nat) : Nat := (b / 16 + b) &&& 15
theorem f1 : ∀ t : Fin 2, ∀ b : Fin 256, (128 * t.val + b.val / 2) &&& 85 = b.val / 2 &&& 85 := by decide +kernel
theorem f2 : ∀ t : Fin 4, ∀ b : Fin 256, (64 * t.val + b.val / 4) &&& 51 = b.val / 4 &&& 51 := by decide +kernel
theorem f3 : ∀ t : Fin 5, ∀ b : Fin 256, (16 * t.val + (p2 (p1 b.val) / 16 + p2 (p1 b.val))) &&& 15 = p3 (p2 (p1 b.val)) ∧ 16 * t.val + (p2 (p1 b.val) / 16 + p2 (p1 b.val)) < 256 ∧ p2 (p1 b.val) % 16 ≤ 4 ∧ p1 b.val < 256 ∧ p2 (p1 b.val) < 256 ∧ p3 (p2 (p1 b.val)) = cnt b.val 8 ∧ cnt b.val 8 ≤ 8 := by decide +kernel
theorem s1 (y M : Nat) {b : Nat} (hb : b < 256) : h1 (256 * y + b) (256 * M + 85) = 256 * h1 y M + p1 b := by
  have e := f1 ⟨y % 2, by omega⟩ ⟨b, hb⟩
  dsimp only at e
  unfold h1 p1
  rw [and_split _ _ _ (by decide), and_split _ _ _ (by decide), show (256 * y + b) / 2 / 256 = y / 2 by omega, show (256 * y + b) / 2 % 256 = 128 * (y % 2) + b / 2 by omega, show (256 * y + b) / 256 = y by omega, show (256 * y + b) % 256 = b by omega, e, Nat.mul_add]
  omega
theorem s2 (y M : Nat) {b : Nat} (hb : b < 256) : h2 (256 * y + b) (256 * M + 51) = 256 * h2 y M + p2 b := by
  have e := f2 ⟨y % 4, by omega⟩ ⟨b, hb⟩
  dsimp only at e
  unfold h2 p2
  rw [and_split _ _ _ (by decide), and_split _ _ _ (by decide), show (256 * y + b) / 4 / 256 = y / 4 by omega, show (256 * y + b) / 4 % 256 = 64 * (y % 4) + b / 4 by omega, show (256 * y + b) / 256 = y by omega, show (256 * y + b) % 256 = b by omega, e, Nat.mul_add]
  omega
theorem s3 (y M : Nat) {b : Nat} (hb : b < 256) (hy : y % 16 ≤ 4) : h3 (256 * y + p2 (p1 b)) (256 * M + 15) = 256 * h3 y M + p3 (p2 (p1 b)) := by
  obtain ⟨e1, e2, _, _, e5, _, _⟩ := f3 ⟨y % 16, by omega⟩ ⟨b, hb⟩
  dsimp only at e1 e2 e5
  unfold h3
  generalize hq : p2 (p1 b) = q at *
  rw [and_split _ _ _ (by decide), show ((256 * y + q) / 16 + (256 * y + q)) / 256 = y / 16 + y by omega, show ((256 * y + q) / 16 + (256 * y + q)) % 256 = 16 * (y % 16) + (q / 16 + q) by omega, e1]
/-- The bytes of a number, put together. -/
def by8 (b0 b1 b2 b3 b4 b5 b6 b7 : Nat) : Nat := 256 * (256 * (256 * (256 * (256 * (256 * (256 * (256 * 0 + b7) + b6) + b5) + b4) + b3) + b2) + b1) + b0
theorem all3 {b0 b1 b2 b3 b4 b5 b6 b7 : Nat} (h0 : b0 < 256) (g1 : b1 < 256) (g2 : b2 < 256) (g3 : b3 < 256) (g4 : b4 < 256) (g5 : b5 < 256) (g6 : b6 < 256) (g7 : b7 < 256) :
    h3 (h2 (h1 (by8 b0 b1 b2 b3 b4 b5 b6 b7) 6148914691236517205) 3689348814741910323) 1085102592571150095 = by8 (cnt b0 8) (cnt b1 8) (cnt b2 8) (cnt b3 8) (cnt b4 8) (cnt b5 8) (cnt b6 8) (cnt b7 8) := by
  have q0 := (f3 0 ⟨b0, h0⟩).2.2; have q1 := (f3 0 ⟨b1, g1⟩).2.2; have q2 := (f3 0 ⟨b2, g2⟩).2.2; have q3 := (f3 0 ⟨b3, g3⟩).2.2
  have q4 := (f3 0 ⟨b4, g4⟩).2.2; have q5 := (f3 0 ⟨b5, g5⟩).2.2; have q6 := (f3 0 ⟨b6, g6⟩).2.2; have q7 := (f3 0 ⟨b7, g7⟩).2.2
  dsimp only at q0 q1 q2 q3 q4 q5 q6 q7
  have m1 : 6148914691236517205 = 256 * (256 * (256 * (256 * (256 * (256 * (256 * (256 * 0 + 85) + 85) + 85) + 85) + 85) + 85) + 85) + 85 := by decide
  have m2 : 3689348814741910323 = 256 * (256 * (256 * (256 * (256 * (256 * (256 * (256 * 0 + 51) + 51) + 51) + 51) + 51) + 51) + 51) + 51 := by decide
  have m3 : 1085102592571150095 = 256 * (256 * (256 * (256 * (256 * (256 * (256 * (256 * 0 + 15) + 15) + 15) + 15) + 15) + 15) + 15) + 15 := by decide
  rw [by8, m1, s1 _ _ h0, s1 _ _ g1, s1 _ _ g2, s1 _ _ g3, s1 _ _ g4, s1 _ _ g5, s1 _ _ g6, s1 _ _ g7, show h1 0 0 = 0 by decide]
  rw [m2, s2 _ _ q0.2.1, s2 _ _ q1.2.1, s2 _ _ q2.2.1, s2 _ _ q3.2.1, s2 _ _ q4.2.1, s2 _ _ q5.2.1, s2 _ _ q6.2.1, s2 _ _ q7.2.1, show h2 0 0 = 0 by decide]
  rw [m3, s3 _ _ h0 (by omega), s3 _ _ g1 (by omega), s3 _ _ g2 (by omega), s3 _ _ g3 (by omega), s3 _ _ g4 (by omega), s3 _ _ g5 (by omega), s3 _ _ g6 (by omega), s3 _ _ g7 (by omega), show h3 0 0 = 0 by decide]
  rw [q0.2.2.2.1, q1.2.2.2.1, q2.2.2.2.1, q3.2.2.2.1, q4.2.2.2.1, q5.2.2.2.1, q6.2.2.2.1, q7.2.2.2.1, by8]
theorem cnt_byte (y : Nat) {b : Nat} (hb : b < 256) : ∀ n : Nat, cnt (256 * y + b) (n + 8) = cnt y n + cnt b 8
  | 0 => by
    rw [Nat.zero_add, show cnt y 0 = 0 from rfl, Nat.zero_add]
    exact cnt_congr 8 fun i hi => by rw [show 256 = 2 ^ 8 by decide, Nat.testBit_two_pow_mul_add _ (show b < 2 ^ 8 from hb), if_pos hi]
  | n + 1 => by
    have ih := cnt_byte y hb n
    have cs : ∀ m k : Nat, cnt m (k + 1) = if m.testBit k then cnt m k + 1 else cnt m k := fun _ _ => rfl
    rw [show n + 1 + 8 = (n + 8) + 1 by omega, cs _ (n + 8), ih, cs y n, show 256 = 2 ^ 8 by decide, Nat.testBit_two_pow_mul_add _ (show b < 2 ^ 8 from hb), if_neg (show ¬ n + 8 < 8 by omega), show n + 8 - 8 = n by omega]
    split <;> omega
theorem by8_cnt {b0 b1 b2 b3 b4 b5 b6 b7 : Nat} (h0 : b0 < 256) (g1 : b1 < 256) (g2 : b2 < 256) (g3 : b3 < 256) (g4 : b4 < 256) (g5 : b5 < 256) (g6 : b6 < 256) (g7 : b7 < 256) :
    cnt (by8 b0 b1 b2 b3 b4 b5 b6 b7) 64 = cnt b0 8 + cnt b1 8 + cnt b2 8 + cnt b3 8 + cnt b4 8 + cnt b5 8 + cnt b6 8 + cnt b7 8 := by
  rw [by8, show 64 = 0 + 8 + 8 + 8 + 8 + 8 + 8 + 8 + 8 by decide, cnt_byte _ h0, cnt_byte _ g1, cnt_byte _ g2, cnt_byte _ g3, cnt_byte _ g4, cnt_byte _ g5, cnt_byte _ g6, cnt_byte _ g7]
  simp only [cnt]; omega
theorem by8_of {x : Nat} (h : x < 18446744073709551616) : ∃ b0 b1 b2 b3 b4 b5 b6 b7, b0 < 256 ∧ b1 < 256 ∧ b2 < 256 ∧ b3 < 256 ∧ b4 < 256 ∧ b5 < 256 ∧ b6 < 256 ∧ b7 < 256 ∧ x = by8 b0 b1 b2 b3 b4 b5 b6 b7 := by
  refine ⟨x % 256, x / 256 % 256, x / 65536 % 256, x / 16777216 % 256, x / 4294967296 % 256, x / 1099511627776 % 256, x / 281474976710656 % 256, x / 72057594037927936 % 256, by omega, by omega, by omega, by omega, by omega, by omega, by omega, by omega, ?_⟩
  unfold by8; omega
theorem and127 (x : Nat) : x &&& 127 = x % 128 := by rw [show 127 = 2 ^ 7 - 1 by decide, Nat.and_two_pow_sub_one_eq_mod]
/-- Added up. -/
def pcN (x : Nat) : Nat :=
  let a := h3 (h2 (h1 x 6148914691236517205) 3689348814741910323) 1085102592571150095
  let b := a + a / 256
  let c := b + b / 65536
  (c + c / 4294967296) &&& 127
theorem fin1 {c0 c1 c2 c3 c4 c5 c6 c7 : Nat} (h0 : c0 ≤ 8) : by8 c0 c1 c2 c3 c4 c5 c6 c7 / 256 = by8 c1 c2 c3 c4 c5 c6 c7 0 := by unfold by8; omega
theorem fin2 {c0 c1 c2 c3 c4 c5 c6 c7 d0 d1 d2 d3 d4 d5 d6 d7 : Nat} : by8 c0 c1 c2 c3 c4 c5 c6 c7 + by8 d0 d1 d2 d3 d4 d5 d6 d7 = by8 (c0 + d0) (c1 + d1) (c2 + d2) (c3 + d3) (c4 + d4) (c5 + d5) (c6 + d6) (c7 + d7) := by unfold by8; omega
theorem fin3 {c0 c1 c2 c3 c4 c5 c6 c7 : Nat} (h0 : c0 ≤ 16) (h1 : c1 ≤ 16) : by8 c0 c1 c2 c3 c4 c5 c6 c7 / 65536 = by8 c2 c3 c4 c5 c6 c7 0 0 := by
  have e : by8 c0 c1 c2 c3 c4 c5 c6 c7 = 65536 * by8 c2 c3 c4 c5 c6 c7 0 0 + (256 * c1 + c0) := by unfold by8; omega
  rw [e]; omega
theorem fin4 {c0 c1 c2 c3 c4 c5 c6 c7 : Nat} (h0 : c0 ≤ 32) (h1 : c1 ≤ 32) (h2 : c2 ≤ 32) (h3 : c3 ≤ 32) : by8 c0 c1 c2 c3 c4 c5 c6 c7 / 4294967296 = by8 c4 c5 c6 c7 0 0 0 0 := by
  have e : by8 c0 c1 c2 c3 c4 c5 c6 c7 = 4294967296 * by8 c4 c5 c6 c7 0 0 0 0 + (256 * (256 * (256 * c3 + c2) + c1) + c0) := by unfold by8; omega
  rw [e]; omega
theorem fin5 {c0 c1 c2 c3 c4 c5 c6 c7 : Nat} (h : c0 < 128) : by8 c0 c1 c2 c3 c4 c5 c6 c7 % 128 = c0 := by
  have e : by8 c0 c1 c2 c3 c4 c5 c6 c7 = 128 * (2 * (256 * (256 * (256 * (256 * (256 * (256 * c7 + c6) + c5) + c4) + c3) + c2) + c1)) + c0 := by unfold by8; omega
  rw [e]; omega
theorem fin6 {c0 c1 c2 c3 c4 c5 c6 c7 : Nat} (h0 : c0 ≤ 8) (h1 : c1 ≤ 8) (h2 : c2 ≤ 8) (h3 : c3 ≤ 8) (h4 : c4 ≤ 8) (h5 : c5 ≤ 8) (h6 : c6 ≤ 8) (h7 : c7 ≤ 8) : by8 c0 c1 c2 c3 c4 c5 c6 c7 ≤ 578721382704613384 := by unfold by8; omega
theorem pc_is {x : Nat} (h : x < 18446744073709551616) : pcN x = cnt x 64 ∧
    h3 (h2 (h1 x 6148914691236517205) 3689348814741910323) 1085102592571150095 ≤ 578721382704613384 := by
  obtain ⟨b0, b1, b2, b3, b4, b5, b6, b7, h0, g1, g2, g3, g4, g5, g6, g7, rfl⟩ := by8_of h
  have q0 := (f3 0 ⟨b0, h0⟩).2.2.2.2.2.2; have q1 := (f3 0 ⟨b1, g1⟩).2.2.2.2.2.2; have q2 := (f3 0 ⟨b2, g2⟩).2.2.2.2.2.2; have q3 := (f3 0 ⟨b3, g3⟩).2.2.2.2.2.2
  have q4 := (f3 0 ⟨b4, g4⟩).2.2.2.2.2.2; have q5 := (f3 0 ⟨b5, g5⟩).2.2.2.2.2.2; have q6 := (f3 0 ⟨b6, g6⟩).2.2.2.2.2.2; have q7 := (f3 0 ⟨b7, g7⟩).2.2.2.2.2.2
  dsimp only at q0 q1 q2 q3 q4 q5 q6 q7
  unfold pcN
  rw [all3 h0 g1 g2 g3 g4 g5 g6 g7, by8_cnt h0 g1 g2 g3 g4 g5 g6 g7, and127]
  refine ⟨?_, fin6 q0 q1 q2 q3 q4 q5 q6 q7⟩
  rw [fin1 q0, fin2, fin3 (by omega) (by omega), fin2, fin4 (by omega) (by omega) (by omega) (by omega), fin2, fin5 (by omega)]
  omega
theorem cnt_52 {x : Nat} (h : x < 2 ^ 52) : cnt x 64 = cnt x 52 := by
  have : ∀ n, cnt x (52 + n) = cnt x 52 := fun n => by
    induction n with
    | zero => rfl
    | succ n ih => rw [← Nat.add_assoc, cnt, bit_lt h (by omega)]; exact ih
  exact this 12
end Go.Deal
