/- Texts merged: Pc, Dm2. -/
import Derived.Test.YtpalajfcffdhoaaGreatDm
/- How many ones a number of 64 bits has, as math/bits counts them, is how many bits are set. -/
namespace Go.Deal
theorem and_split (a M c : Nat) (hc : c < 256) : a &&& (256 * M + c) = 256 * (a / 256 &&& M) + (a % 256 &&& c) := by
  have h1 : (a % 256 &&& c) < 2 ^ 8 := Nat.lt_of_le_of_lt Nat.and_le_right hc
  refine Nat.eq_of_testBit_eq fun i => ?_
  rw [Nat.testBit_and, show 256 = 2 ^ 8 by decide, Nat.testBit_two_pow_mul_add _ (show c < 2 ^ 8 from hc), Nat.testBit_two_pow_mul_add _ h1]
  split
  · rename_i hi
    have e : (a % 256).testBit i = a.testBit i := by rw [show 256 = 2 ^ 8 by decide, Nat.testBit_mod_two_pow, decide_eq_true hi, Bool.true_and]
    rw [Nat.testBit_and]
    first | rw [e] | (rw [show (2 : Nat) ^ 8 = 256 by decide, e])
  · rename_i hi
    rw [Nat.testBit_and, Nat.testBit_div_two_pow, show i - 8 + 8 = i by omega]
def h1 (x M : Nat) : Nat := (x / 2 &&& M) + (x &&& M)
def h2 (x M : Nat) : Nat := (x / 4 &&& M) + (x &&& M)
def h3 (x M : Nat) : Nat := (x / 16 + x) &&& M
def p1 (b : Nat) : Nat := (b / 2 &&& 85) + (b &&& 85)
def p2 (b : Nat) : Nat := (b / 4 &&& 51) + (b &&& 51)
def p3 (b : Nat) : Nat := (b / 16 + b) &&& 15
theorem f1 : ∀ t : Fin 2, ∀ b : Fin 256, (128 * t.val + b.val / 2) &&& 85 = b.val / 2 &&& 85 := by decide +kernel
theorem f2 : ∀ t : Fin 4, ∀ b : Fin 256, (64 * t.val + b.val / 4) &&& 51 = b.val / 4 &&& 51 := by decide +kernel
theorem f3 : ∀ t : Fin 5, ∀ b : Fin 256, (16 * t.val + (p2 (p1 b.val) / 16 + p2 (p1 b.val))) &&& 15 = p3 (p2 (p1 b.val)) ∧ 16 * t.val + (p2 (p1 b.val) / 16 + p2 (p1 b.val)) < 256 ∧ p2 (p1 b.val) % 16 ≤ 4 ∧ p1 b.val < 256 ∧ p2 (p1 b.val) < 256 ∧ p3 (p2 (p1 b.val)) = cnt b.val 8 ∧ cnt b.val 8 ≤ 8 := by decide +kernel
theorem s1 (y M : Nat) {b : Nat} (hb : b < 256) : h1 (256 * y + b) (256 * M + 85) = 256 * h1 y M + p1 b := by
  have e := f1 ⟨y % 2, by omega⟩ ⟨b, hb⟩
  dsimp only at e
  unfold h1 p1
  rw [and_split _ _ _ (by decide), and_split _ _ _ (by decide), show (256 * y + b) / 2 / 256 = y / 2 by omega, show (256 * y + b) / 2 % 256 = 128 * (y % 2) + b / 2 by omega, show (256 * y + b) / 256 = y by omega, show (256 * y + b) % 256 = b by omega, e, Nat.mul_add]
  omega
theorem s2 (y M : Nat) {b : Nat} (hb : b < 256) : h2 (256 * y + b) (256 * M + 51) = 256 * h2 y M + p2 b := by
  have e := f2 ⟨y % 4, by omega⟩ ⟨b, hb⟩
  dsimp only at e
  unfold h2 p2
  rw [and_split _ _ _ (by decide), and_split _ _ _ (by decide), show (256 * y + b) / 4 / 256 = y / 4 by omega, show (256 * y + b) / 4 % 256 = 64 * (y % 4) + b / 4 by omega, show (256 * y + b) / 256 = y by omega, show (256 * y + b) % 256 = b by omega, e, Nat.mul_add]
  omega
theorem s3 (y M : Nat) {b : Nat} (hb : b < 256) (hy : y % 16 ≤ 4) : h3 (256 * y + p2 (p1 b)) (256 * M + 15) = 256 * h3 y M + p3 (p2 (p1 b)) := by
  obtain ⟨e1, e2, _, _, e5, _, _⟩ := f3 ⟨y % 16, by omega⟩ ⟨b, hb⟩
  dsimp only at e1 e2 e5
  unfold h3
  generalize hq : p2 (p1 b) = q at *
  rw [and_split _ _ _ (by decide), show ((256 * y + q) / 16 + (256 * y + q)) / 256 = y / 16 + y by omega, show ((256 * y + q) / 16 + (256 * y + q)) % 256 = 16 * (y % 16) + (q / 16 + q) by omega, e1]
/-- The bytes of a number, put together. -/
def by8 (b0 b1 b2 b3 b4 b5 b6 b7 : Nat) : Nat := 256 * (256 * (256 * (256 * (256 * (256 * (256 * (256 * 0 + b7) + b6) + b5) + b4) + b3) + b2) + b1) + b0
theorem all3 {b0 b1 b2 b3 b4 b5 b6 b7 : Nat} (h0 : b0 < 256) (g1 : b1 < 256) (g2 : b2 < 256) (g3 : b3 < 256) (g4 : b4 < 256) (g5 : b5 < 256) (g6 : b6 < 256) (g7 : b7 < 256) :
    h3 (h2 (h1 (by8 b0 b1 b2 b3 b4 b5 b6 b7) 6148914691236517205) 3689348814741910323) 1085102592571150095 = by8 (cnt b0 8) (cnt b1 8) (cnt b2 8) (cnt b3 8) (cnt b4 8) (cnt b5 8) (cnt b6 8) (cnt b7 8) := by
  have q0 := (f3 0 ⟨b0, h0⟩).2.2; have q1 := (f3 0 ⟨b1, g1⟩).2.2; have q2 := (f3 0 ⟨b2, g2⟩).2.2; have q3 := (f3 0 ⟨b3, g3⟩).2.2
  have q4 := (f3 0 ⟨b4, g4⟩).2.2; have q5 := (f3 0 ⟨b5, g5⟩).2.2; have q6 := (f3 0 ⟨b6, g6⟩).2.2; have q7 := (f3 0 ⟨b7, g7⟩).2.2
  dsimp only at q0 q1 q2 q3 q4 q5 q6 q7
  have m1 : 6148914691236517205 = 256 * (256 * (256 * (256 * (256 * (256 * (256 * (256 * 0 + 85) + 85) + 85) + 85) + 85) + 85) + 85) + 85 := by decide
  have m2 : 3689348814741910323 = 256 * (256 * (256 * (256 * (256 * (256 * (256 * (256 * 0 + 51) + 51) + 51) + 51) + 51) + 51) + 51) + 51 := by decide
  have m3 : 1085102592571150095 = 256 * (256 * (256 * (256 * (256 * (256 * (256 * (256 * 0 + 15) + 15) + 15) + 15) + 15) + 15) + 15) + 15 := by decide
  rw [by8, m1, s1 _ _ h0, s1 _ _ g1, s1 _ _ g2, s1 _ _ g3, s1 _ _ g4, s1 _ _ g5, s1 _ _ g6, s1 _ _ g7, show h1 0 0 = 0 by decide]
  rw [m2, s2 _ _ q0.2.1, s2 _ _ q1.2.1, s2 _ _ q2.2.1, s2 _ _ q3.2.1, s2 _ _ q4.2.1, s2 _ _ q5.2.1, s2 _ _ q6.2.1, s2 _ _ q7.2.1, show h2 0 0 = 0 by decide]
  rw [m3, s3 _ _ h0 (by omega), s3 _ _ g1 (by omega), s3 _ _ g2 (by omega), s3 _ _ g3 (by omega), s3 _ _ g4 (by omega), s3 _ _ g5 (by omega), s3 _ _ g6 (by omega), s3 _ _ g7 (by omega), show h3 0 0 = 0 by decide]
  rw [q0.2.2.2.1, q1.2.2.2.1, q2.2.2.2.1, q3.2.2.2.1, q4.2.2.2.1, q5.2.2.2.1, q6.2.2.2.1, q7.2.2.2.1, by8]
theorem cnt_byte (y : Nat) {b : Nat} (hb : b < 256) : ∀ n : Nat, cnt (256 * y + b) (n + 8) = cnt y n + cnt b 8
  | 0 => by
    rw [Nat.zero_add, show cnt y 0 = 0 from rfl, Nat.zero_add]
    exact cnt_congr 8 fun i hi => by rw [show 256 = 2 ^ 8 by decide, Nat.testBit_two_pow_mul_add _ (show b < 2 ^ 8 from hb), if_pos hi]
  | n + 1 => by
    have ih := cnt_byte y hb n
    have cs : ∀ m k : Nat, cnt m (k + 1) = if m.testBit k then cnt m k + 1 else cnt m k := fun _ _ => rfl
    rw [show n + 1 + 8 = (n + 8) + 1 by omega, cs _ (n + 8), ih, cs y n, show 256 = 2 ^ 8 by decide, Nat.testBit_two_pow_mul_add _ (show b < 2 ^ 8 from hb), if_neg (show ¬ n + 8 < 8 by omega), show n + 8 - 8 = n by omega]
    split <;> omega
theorem by8_cnt {b0 b1 b2 b3 b4 b5 b6 b7 : Nat} (h0 : b0 < 256) (g1 : b1 < 256) (g2 : b2 < 256) (g3 : b3 < 256) (g4 : b4 < 256) (g5 : b5 < 256) (g6 : b6 < 256) (g7 : b7 < 256) :
    cnt (by8 b0 b1 b2 b3 b4 b5 b6 b7) 64 = cnt b0 8 + cnt b1 8 + cnt b2 8 + cnt b3 8 + cnt b4 8 + cnt b5 8 + cnt b6 8 + cnt b7 8 := by
  rw [by8, show 64 = 0 + 8 + 8 + 8 + 8 + 8 + 8 + 8 + 8 by decide, cnt_byte _ h0, cnt_byte _ g1, cnt_byte _ g2, cnt_byte _ g3, cnt_byte _ g4, cnt_byte _ g5, cnt_byte _ g6, cnt_byte _ g7]
  simp only [cnt]; omega
theorem by8_of {x : Nat} (h : x < 18446744073709551616) : ∃ b0 b1 b2 b3 b4 b5 b6 b7, b0 < 256 ∧ b1 < 256 ∧ b2 < 256 ∧ b3 < 256 ∧ b4 < 256 ∧ b5 < 256 ∧ b6 < 256 ∧ b7 < 256 ∧ x = by8 b0 b1 b2 b3 b4 b5 b6 b7 := by
  refine ⟨x % 256, x / 256 % 256, x / 65536 % 256, x / 16777216 % 256, x / 4294967296 % 256, x / 1099511627776 % 256, x / 281474976710656 % 256, x / 72057594037927936 % 256, by omega, by omega, by omega, by omega, by omega, by omega, by omega, by omega, ?_⟩
  unfold by8; omega
theorem and127 (x : Nat) : x &&& 127 = x % 128 := by rw [show 127 = 2 ^ 7 - 1 by decide, Nat.and_two_pow_sub_one_eq_mod]
/-- Added up. -/
def pcN (x : Nat) : Nat :=
  let a := h3 (h2 (h1 x 6148914691236517205) 3689348814741910323) 1085102592571150095
  let b := a + a / 256
  let c := b + b / 65536
  (c + c / 4294967296) &&& 127
theorem fin1 {c0 c1 c2 c3 c4 c5 c6 c7 : Nat} (h0 : c0 ≤ 8) : by8 c0 c1 c2 c3 c4 c5 c6 c7 / 256 = by8 c1 c2 c3 c4 c5 c6 c7 0 := by unfold by8; omega
theorem fin2 {c0 c1 c2 c3 c4 c5 c6 c7 d0 d1 d2 d3 d4 d5 d6 d7 : Nat} : by8 c0 c1 c2 c3 c4 c5 c6 c7 + by8 d0 d1 d2 d3 d4 d5 d6 d7 = by8 (c0 + d0) (c1 + d1) (c2 + d2) (c3 + d3) (c4 + d4) (c5 + d5) (c6 + d6) (c7 + d7) := by unfold by8; omega
theorem fin3 {c0 c1 c2 c3 c4 c5 c6 c7 : Nat} (h0 : c0 ≤ 16) (h1 : c1 ≤ 16) : by8 c0 c1 c2 c3 c4 c5 c6 c7 / 65536 = by8 c2 c3 c4 c5 c6 c7 0 0 := by
  have e : by8 c0 c1 c2 c3 c4 c5 c6 c7 = 65536 * by8 c2 c3 c4 c5 c6 c7 0 0 + (256 * c1 + c0) := by unfold by8; omega
  rw [e]; omega
theorem fin4 {c0 c1 c2 c3 c4 c5 c6 c7 : Nat} (h0 : c0 ≤ 32) (h1 : c1 ≤ 32) (h2 : c2 ≤ 32) (h3 : c3 ≤ 32) : by8 c0 c1 c2 c3 c4 c5 c6 c7 / 4294967296 = by8 c4 c5 c6 c7 0 0 0 0 := by
  have e : by8 c0 c1 c2 c3 c4 c5 c6 c7 = 4294967296 * by8 c4 c5 c6 c7 0 0 0 0 + (256 * (256 * (256 * c3 + c2) + c1) + c0) := by unfold by8; omega
  rw [e]; omega
theorem fin5 {c0 c1 c2 c3 c4 c5 c6 c7 : Nat} (h : c0 < 128) : by8 c0 c1 c2 c3 c4 c5 c6 c7 % 128 = c0 := by
  have e : by8 c0 c1 c2 c3 c4 c5 c6 c7 = 128 * (2 * (256 * (256 * (256 * (256 * (256 * (256 * c7 + c6) + c5) + c4) + c3) + c2) + c1)) + c0 := by unfold by8; omega
  rw [e]; omega
theorem fin6 {c0 c1 c2 c3 c4 c5 c6 c7 : Nat} (h0 : c0 ≤ 8) (h1 : c1 ≤ 8) (h2 : c2 ≤ 8) (h3 : c3 ≤ 8) (h4 : c4 ≤ 8) (h5 : c5 ≤ 8) (h6 : c6 ≤ 8) (h7 : c7 ≤ 8) : by8 c0 c1 c2 c3 c4 c5 c6 c7 ≤ 578721382704613384 := by unfold by8; omega
theorem pc_is {x : Nat} (h : x < 18446744073709551616) : pcN x = cnt x 64 ∧
    h3 (h2 (h1 x 6148914691236517205) 3689348814741910323) 1085102592571150095 ≤ 578721382704613384 := by
  obtain ⟨b0, b1, b2, b3, b4, b5, b6, b7, h0, g1, g2, g3, g4, g5, g6, g7, rfl⟩ := by8_of h
  have q0 := (f3 0 ⟨b0, h0⟩).2.2.2.2.2.2; have q1 := (f3 0 ⟨b1, g1⟩).2.2.2.2.2.2; have q2 := (f3 0 ⟨b2, g2⟩).2.2.2.2.2.2; have q3 := (f3 0 ⟨b3, g3⟩).2.2.2.2.2.2
  have q4 := (f3 0 ⟨b4, g4⟩).2.2.2.2.2.2; have q5 := (f3 0 ⟨b5, g5⟩).2.2.2.2.2.2; have q6 := (f3 0 ⟨b6, g6⟩).2.2.2.2.2.2; have q7 := (f3 0 ⟨b7, g7⟩).2.2.2.2.2.2
  dsimp only at q0 q1 q2 q3 q4 q5 q6 q7
  unfold pcN
  rw [all3 h0 g1 g2 g3 g4 g5 g6 g7, by8_cnt h0 g1 g2 g3 g4 g5 g6 g7, and127]
  refine ⟨?_, fin6 q0 q1 q2 q3 q4 q5 q6 q7⟩
  rw [fin1 q0, fin2, fin3 (by omega) (by omega), fin2, fin4 (by omega) (by omega) (by omega) (by omega), fin2, fin5 (by omega)]
  omega
theorem cnt_52 {x : Nat} (h : x < 2 ^ 52) : cnt x 64 = cnt x 52 := by
  have : ∀ n, cnt x (52 + n) = cnt x 52 := fun n => by
    induction n with
    | zero => rfl
    | succ n ih => rw [← Nat.add_assoc, cnt, bit_lt h (by omega)]; exact ih
  exact this 12
end Go.Deal

/- Chapter 6, plainly: the completions of a deal by number and back. -/
namespace Go.Deal
def sm : List Nat → Nat
  | [] => 0
  | l :: r => l + sm r
/-- In how many ways as many cards as are wanted can be given. -/
def wy : List Nat → Nat
  | [] => 1
  | l :: r => bc (l + sm r) l * wy r
theorem wy_pos : ∀ l : List Nat, 0 < wy l
  | [] => by decide
  | l :: r => Nat.mul_pos (bc_pos (by omega)) (wy_pos r)
def comp : List Nat → Nat → Nat → List Nat
  | [], _, _ => []
  | l :: r, m, n => pick m 52 l (n / wy r) :: comp r (nd m (pick m 52 l (n / wy r))) (n % wy r)
def cs : List Nat → List Nat
  | [] => []
  | g :: r => cnt g 52 :: cs r
def idx : List Nat → Nat → Nat
  | [], _ => 0
  | g :: r, m => rank m g 52 * wy (cs r) + idx r (nd m g)
/-- Sets that are taken out of m one after the other. -/
def Good : List Nat → Nat → Prop
  | [], _ => True
  | g :: r, m => Sub g m ∧ g < 2 ^ 52 ∧ Good r (nd m g)
theorem comp_ok : ∀ {l : List Nat} {m n : Nat}, cnt m 52 = sm l → n < wy l → Good (comp l m n) m ∧ cs (comp l m n) = l ∧ idx (comp l m n) m = n
  | [], m, n, _, h => ⟨trivial, rfl, by simp only [wy] at h; simp only [comp, idx]; omega⟩
  | l :: r, m, n, hm, h => by
    simp only [sm] at hm
    simp only [wy] at h
    have hq : n / wy r < bc (cnt m 52) l := by rw [hm]; exact Nat.div_lt_of_lt_mul (by rw [Nat.mul_comm]; exact h)
    have h1 := pick_sub m 52 l (n / wy r)
    have h2 := pick_cnt m hq
    have h3 := pick_lt m 52 l (n / wy r)
    have h4 := rank_pick m hq
    have h5 := cnt_nd h1 52
    obtain ⟨a, b, c⟩ := comp_ok (l := r) (m := nd m (pick m 52 l (n / wy r))) (n := n % wy r) (by omega) (Nat.mod_lt _ (wy_pos r))
    refine ⟨⟨h1, h3, a⟩, ?_, ?_⟩
    · simp only [comp, cs]; rw [h2, b]
    · simp only [comp, idx]
      rw [b, c, h4, Nat.mul_comm]; exact Nat.div_add_mod _ _
theorem idx_lt : ∀ {g : List Nat} {m : Nat}, Good g m → cnt m 52 = sm (cs g) → idx g m < wy (cs g)
  | [], m, _, _ => by simp [idx, wy, cs]
  | g :: r, m, ⟨h1, h2, h3⟩, hm => by
    simp only [cs, sm] at hm
    have h5 := cnt_nd h1 52
    have ih := idx_lt h3 (by omega)
    have hr := rank_lt h1 52
    rw [hm] at hr
    simp only [idx, wy, cs]
    calc rank m g 52 * wy (cs r) + idx r (nd m g) < rank m g 52 * wy (cs r) + wy (cs r) := by omega
      _ = (rank m g 52 + 1) * wy (cs r) := by rw [Nat.add_mul, Nat.one_mul]
      _ ≤ bc (cnt g 52 + sm (cs r)) (cnt g 52) * wy (cs r) := Nat.mul_le_mul_right _ hr
theorem comp_idx : ∀ {g : List Nat} {m : Nat}, Good g m → cnt m 52 = sm (cs g) → comp (cs g) m (idx g m) = g
  | [], m, _, _ => rfl
  | g :: r, m, ⟨h1, h2, h3⟩, hm => by
    simp only [cs, sm] at hm
    have h5 := cnt_nd h1 52
    have hm' : cnt (nd m g) 52 = sm (cs r) := by omega
    have ih := comp_idx h3 hm'
    have hl := idx_lt h3 hm'
    have e1 : (rank m g 52 * wy (cs r) + idx r (nd m g)) / wy (cs r) = rank m g 52 := by
      rw [Nat.add_comm, Nat.add_mul_div_right _ _ (wy_pos _), Nat.div_eq_of_lt hl, Nat.zero_add]
    have e2 : (rank m g 52 * wy (cs r) + idx r (nd m g)) % wy (cs r) = idx r (nd m g) := by
      rw [Nat.add_comm, Nat.add_mul_mod_self_right, Nat.mod_eq_of_lt hl]
    simp only [comp, idx, cs]
    rw [e1, e2, pick_rank h1 h2, ih]
/-- The order of completions: by the first hand in which they differ. -/
def lex : List Nat → List Nat → Int
  | a :: r, b :: s => if a < b then -1 else if b < a then 1 else lex r s
  | _, _ => 0
def sgn (a b : Nat) : Int := if a < b then -1 else if b < a then 1 else 0
theorem idx_lex : ∀ {g k : List Nat} {m : Nat}, Good g m → Good k m → cs g = cs k → cnt m 52 = sm (cs g) → lex g k = sgn (idx g m) (idx k m)
  | [], [], m, _, _, _, _ => rfl
  | [], b :: s, m, _, _, h, _ => by cases h
  | a :: r, [], m, _, _, h, _ => by cases h
  | a :: r, b :: s, m, ⟨a1, a2, a3⟩, ⟨b1, b2, b3⟩, hc, hm => by
    simp only [cs, List.cons.injEq] at hc
    obtain ⟨hc1, hc2⟩ := hc
    simp only [cs, sm] at hm
    have h5 := cnt_nd a1 52
    have h6 := cnt_nd b1 52
    have la := idx_lt a3 (by omega)
    have lb := idx_lt b3 (by rw [← hc2]; omega)
    simp only [lex, idx]
    rw [← hc2] at lb ⊢
    by_cases h : a < b
    · have hr := rank_mono a1 b1 a2 b2 hc1 h
      have : rank m a 52 * wy (cs r) + wy (cs r) ≤ rank m b 52 * wy (cs r) := by rw [← Nat.succ_mul]; exact Nat.mul_le_mul_right _ hr
      rw [if_pos h, sgn, if_pos (by omega)]
    · by_cases h' : b < a
      · have hr := rank_mono b1 a1 b2 a2 hc1.symm h'
        have : rank m b 52 * wy (cs r) + wy (cs r) ≤ rank m a 52 * wy (cs r) := by rw [← Nat.succ_mul]; exact Nat.mul_le_mul_right _ hr
        rw [if_neg h, if_pos h', sgn, if_neg (by omega), if_pos (by omega)]
      · obtain rfl : a = b := by omega
        rw [if_neg h, if_neg h, idx_lex a3 b3 hc2 (by omega)]
        unfold sgn
        by_cases q : idx r (nd m a) < idx s (nd m a)
        · rw [if_pos q, if_pos (by omega)]
        · rw [if_neg q, if_neg (show ¬ rank m a 52 * wy (cs r) + idx r (nd m a) < rank m a 52 * wy (cs r) + idx s (nd m a) by omega)]
          by_cases q' : idx s (nd m a) < idx r (nd m a)
          · rw [if_pos q', if_pos (by omega)]
          · rw [if_neg q', if_neg (by omega)]
/-! ### of one card, who gets it -/
def sumW : List Nat → Nat
  | [] => 0
  | l :: r => (if l = 0 then 0 else bc (l - 1 + sm r) (l - 1) * wy r) + bc (l + sm r - 1) l * sumW r
theorem sumW_zero : ∀ {l : List Nat}, sm l = 0 → sumW l = 0
  | [], _ => rfl
  | l :: r, h => by
    simp only [sm] at h
    obtain rfl : l = 0 := by omega
    simp only [sumW]
    rw [sumW_zero (l := r) (by omega)]; simp
theorem sumW_eq : ∀ {l : List Nat}, 0 < sm l → sumW l = wy l
  | [], h => by simp [sm] at h
  | l :: r, h => by
    simp only [sm] at h
    simp only [sumW, wy]
    rcases Nat.eq_zero_or_pos (sm r) with h0 | h0
    · rw [sumW_zero h0, h0, if_neg (by omega), Nat.add_zero, Nat.add_zero, bc_self, bc_self]; simp
    · rw [sumW_eq h0]
      cases l with
      | zero => rw [if_pos rfl, bc_zero, bc_zero]; simp
      | succ l =>
        rw [if_neg (Nat.succ_ne_zero l), Nat.add_sub_cancel, show l + 1 + sm r - 1 = l + sm r by omega, show l + 1 + sm r = (l + sm r) + 1 by omega, bc, Nat.add_mul]
theorem wy_four {a b c d : Nat} (ha : a ≤ 13) (hb : b ≤ 13) (hc : c ≤ 13) (hd : d ≤ 13) : wy [a, b, c, d] ≤ 2 ^ 117 ∧ wy [b, c, d] ≤ 2 ^ 65 ∧ wy [c, d] ≤ 2 ^ 26 ∧ wy [d] = 1 := by
  have e3 : wy [d] = 1 := by simp only [wy, sm]; rw [Nat.add_zero, bc_self]
  have e2 : wy [c, d] ≤ 2 ^ 26 := by
    rw [wy, e3, Nat.mul_one]; exact Nat.le_trans (bc_le _ _) (Nat.pow_le_pow_right (by decide) (by simp only [sm]; omega))
  have e1 : wy [b, c, d] ≤ 2 ^ 65 := by
    rw [wy]; exact Nat.le_trans (Nat.mul_le_mul (Nat.le_trans (bc_le _ _) (Nat.pow_le_pow_right (show 2 > 0 by decide) (show b + sm [c, d] ≤ 39 by simp only [sm]; omega))) e2) (by decide)
  refine ⟨?_, e1, e2, e3⟩
  rw [wy]; exact Nat.le_trans (Nat.mul_le_mul (Nat.le_trans (bc_le _ _) (Nat.pow_le_pow_right (show 2 > 0 by decide) (show a + sm [b, c, d] ≤ 52 by simp only [sm]; omega))) e1) (by decide)
end Go.Deal
