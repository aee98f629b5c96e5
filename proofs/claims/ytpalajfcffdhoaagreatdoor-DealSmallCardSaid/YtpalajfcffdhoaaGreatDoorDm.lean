/- Texts merged: Dm, Pc. -/
/- Chapter 6, plainly: sets as numbers, how many cards they have, choices of them by number and back. -/
namespace Go.Deal
def bc : Nat → Nat → Nat
  | _, 0 => 1
  | 0, _ + 1 => 0
  | n + 1, k + 1 => bc n k + bc n (k + 1)
theorem bc_zero (n : Nat) : bc n 0 = 1 := by cases n <;> rfl
theorem bc_big : ∀ {n k : Nat}, n < k → bc n k = 0
  | 0, k + 1, _ => rfl
  | n + 1, k + 1, h => by rw [bc, bc_big (by omega), bc_big (by omega)]
theorem bc_self : ∀ n : Nat, bc n n = 1
  | 0 => rfl
  | n + 1 => by rw [bc, bc_self n, bc_big (by omega)]
theorem bc_le : ∀ n k : Nat, bc n k ≤ 2 ^ n
  | 0, 0 => by decide
  | 0, k + 1 => Nat.zero_le _
  | n + 1, 0 => by rw [bc_zero]; exact Nat.one_le_two_pow
  | n + 1, k + 1 => by
    have h1 := bc_le n k; have h2 := bc_le n (k + 1)
    rw [bc, Nat.pow_succ]; omega
theorem bc_pos : ∀ {n k : Nat}, k ≤ n → 0 < bc n k
  | _, 0, _ => by rw [bc_zero]; decide
  | n + 1, k + 1, h => by have := bc_pos (n := n) (k := k) (by omega); rw [bc]; omega
theorem bc_less : ∀ n k : Nat, bc (n + 1) k * (n + 1 - k) = bc n k * (n + 1)
  | n, 0 => by simp [bc_zero]
  | 0, 1 => by decide
  | 0, k + 2 => by rw [bc_big (show 0 + 1 < k + 2 by omega), bc_big (show 0 < k + 2 by omega)]; simp
  | n + 1, k + 1 => by
    rcases Nat.lt_or_ge n k with h | h
    · rw [bc_big (show n + 1 < k + 1 by omega), show n + 1 + 1 - (k + 1) = 0 by omega]; simp
    · have h1 := bc_less n k
      have h2 := bc_less n (k + 1)
      have e : bc (n + 1 + 1) (k + 1) = bc (n + 1) k + bc (n + 1) (k + 1) := rfl
      have e2 : bc (n + 1) (k + 1) = bc n k + bc n (k + 1) := rfl
      obtain ⟨d, rfl⟩ : ∃ d, n = k + d := ⟨n - k, by omega⟩
      rw [show k + d + 1 - k = d + 1 by omega] at h1
      rw [show k + d + 1 - (k + 1) = d by omega] at h2
      rw [e, show k + d + 1 + 1 - (k + 1) = d + 1 by omega, Nat.add_mul, h1]
      have : bc (k + d + 1) (k + 1) * (d + 1) = bc (k + d) (k + 1) * (k + d + 1) + bc (k + d + 1) (k + 1) := by rw [Nat.mul_add, h2, Nat.mul_one]
      rw [this]
      have e3 : bc (k + d + 1) (k + 1) * (k + d + 1 + 1) = bc (k + d + 1) (k + 1) * (k + d + 1) + bc (k + d + 1) (k + 1) := by rw [Nat.mul_add, Nat.mul_one]
      have e4 : bc (k + d + 1) (k + 1) * (k + d + 1) = bc (k + d) k * (k + d + 1) + bc (k + d) (k + 1) * (k + d + 1) := by rw [e2, Nat.add_mul]
      omega
theorem bc_without {n k : Nat} (h : 0 < n) : bc n k * (n - k) / n = bc (n - 1) k := by
  obtain ⟨m, rfl⟩ : ∃ m, n = m + 1 := ⟨n - 1, by omega⟩
  rw [bc_less, show m + 1 - 1 = m by omega]
  exact Nat.mul_div_cancel _ (by omega)
def cnt (m : Nat) : Nat → Nat
  | 0 => 0
  | n + 1 => if m.testBit n then cnt m n + 1 else cnt m n
theorem cnt_le (m : Nat) : ∀ n, cnt m n ≤ n
  | 0 => Nat.le_refl _
  | n + 1 => by have := cnt_le m n; simp only [cnt]; split <;> omega
theorem cnt_congr {a b : Nat} : ∀ n : Nat, (∀ i, i < n → a.testBit i = b.testBit i) → cnt a n = cnt b n
  | 0, _ => rfl
  | n + 1, h => by simp only [cnt]; rw [h n (by omega), cnt_congr n fun i hi => h i (by omega)]
theorem cnt_zero : ∀ n : Nat, cnt 0 n = 0
  | 0 => rfl
  | n + 1 => by simp only [cnt, Nat.zero_testBit, cnt_zero n]; rfl
def nd (a b : Nat) : Nat := a ^^^ (a &&& b)
theorem nd_bit (a b i : Nat) : (nd a b).testBit i = (a.testBit i && !b.testBit i) := by
  unfold nd
  rw [Nat.testBit_xor, Nat.testBit_and]
  cases a.testBit i <;> cases b.testBit i <;> rfl
def Sub (g m : Nat) : Prop := ∀ i, g.testBit i = true → m.testBit i = true
def Dis (a b : Nat) : Prop := ∀ i, a.testBit i = true → b.testBit i = true → False
theorem cnt_nd {m g : Nat} (h : Sub g m) : ∀ n, cnt (nd m g) n + cnt g n = cnt m n
  | 0 => rfl
  | n + 1 => by
    have ih := cnt_nd h n
    simp only [cnt]
    rw [nd_bit]
    cases hg : g.testBit n with
    | true => rw [h n hg]; simp; omega
    | false => cases m.testBit n <;> simp <;> omega
theorem cnt_or {a b : Nat} (h : Dis a b) : ∀ n, cnt (a ||| b) n = cnt a n + cnt b n
  | 0 => rfl
  | n + 1 => by
    have ih := cnt_or h n
    simp only [cnt]
    rw [Nat.testBit_or, ih]
    have hn := h n
    cases ha : a.testBit n <;> cases hb : b.testBit n <;> simp [ha, hb] at hn ⊢ <;> omega
theorem cnt_sub {g m : Nat} (h : Sub g m) (n : Nat) : cnt g n ≤ cnt m n := by have := cnt_nd h n; omega
theorem cnt_pos {g : Nat} : ∀ {n i : Nat}, i < n → g.testBit i = true → 0 < cnt g n
  | n + 1, i, hi, h => by
    simp only [cnt]
    by_cases e : i = n
    · subst e; rw [h]; simp
    · have := cnt_pos (n := n) (i := i) (by omega) h
      split <;> omega
theorem sub_cnt_eq {g m : Nat} (h : Sub g m) {n : Nat} (he : cnt g n = cnt m n) : ∀ i, i < n → g.testBit i = m.testBit i := by
  intro i hi
  have := cnt_nd h n
  cases hg : g.testBit i with
  | true => rw [h i hg]
  | false =>
    cases hm : m.testBit i with
    | false => rfl
    | true =>
      have := cnt_pos (g := nd m g) hi (by rw [nd_bit, hg, hm]; rfl)
      omega
theorem bit_lt {m n i : Nat} (h : m < 2 ^ n) (hi : n ≤ i) : m.testBit i = false := Nat.testBit_lt_two_pow (Nat.lt_of_lt_of_le h (Nat.pow_le_pow_right (by decide) hi))
theorem lt_bit {m n : Nat} (h : ∀ i, n ≤ i → m.testBit i = false) : m < 2 ^ n := Nat.lt_pow_two_of_testBit m h
theorem eq_bits {a b n : Nat} (ha : a < 2 ^ n) (hb : b < 2 ^ n) (h : ∀ i, i < n → a.testBit i = b.testBit i) : a = b :=
  Nat.eq_of_testBit_eq fun i => by
    rcases Nat.lt_or_ge i n with hi | hi
    · exact h i hi
    · rw [bit_lt ha hi, bit_lt hb hi]
theorem pow_add_bit {n x i : Nat} (hx : x < 2 ^ n) : (2 ^ n + x).testBit i = (decide (n = i) || x.testBit i) := by
  have e := Nat.two_pow_add_eq_or_of_lt hx 1
  rw [Nat.mul_one] at e
  rw [e, Nat.testBit_or, Nat.testBit_two_pow]
def pick (m : Nat) : Nat → Nat → Nat → Nat
  | 0, _, _ => 0
  | n + 1, k, i => if m.testBit n then
      (if k = 0 then 0 else if i < bc (cnt m n) k then pick m n k i else 2 ^ n + pick m n (k - 1) (i - bc (cnt m n) k))
    else pick m n k i
def rank (m g : Nat) : Nat → Nat
  | 0 => 0
  | n + 1 => if m.testBit n && g.testBit n then bc (cnt m n) (cnt g (n + 1)) + rank m g n else rank m g n
theorem pick_lt (m : Nat) : ∀ n k i, pick m n k i < 2 ^ n
  | 0, _, _ => by simp [pick]
  | n + 1, k, i => by
    have hp : 2 ^ (n + 1) = 2 ^ n + 2 ^ n := by rw [Nat.pow_succ]; omega
    have h0 := Nat.two_pow_pos n
    simp only [pick]
    split
    · split
      · omega
      · split
        · have := pick_lt m n k i; omega
        · have := pick_lt m n (k - 1) (i - bc (cnt m n) k); omega
    · have := pick_lt m n k i; omega
theorem pick_sub (m : Nat) : ∀ n k i, Sub (pick m n k i) m
  | 0, _, _, j, h => by simp [pick] at h
  | n + 1, k, i, j, h => by
    simp only [pick] at h
    split at h
    · rename_i hm
      split at h
      · simp at h
      · split at h
        · exact pick_sub m n k i j h
        · rw [pow_add_bit (pick_lt _ _ _ _)] at h
          by_cases e : n = j
          · subst e; exact hm
          · rw [decide_eq_false e, Bool.false_or] at h
            exact pick_sub m n _ _ j h
    · exact pick_sub m n k i j h
theorem cnt_pow_add {n x : Nat} (hx : x < 2 ^ n) : cnt (2 ^ n + x) n = cnt x n := cnt_congr n fun i hi => by rw [pow_add_bit hx, decide_eq_false (by omega), Bool.false_or]
theorem pick_cnt (m : Nat) : ∀ {n k i : Nat}, i < bc (cnt m n) k → cnt (pick m n k i) n = k
  | 0, k, i, h => by
    cases k with
    | zero => rfl
    | succ k => simp [cnt, bc] at h
  | n + 1, k, i, h => by
    simp only [cnt] at h
    simp only [pick]
    split
    · rename_i hm
      rw [if_pos hm] at h
      cases k with
      | zero => rw [if_pos rfl, cnt_zero]
      | succ k =>
        rw [bc] at h
        rw [if_neg (by omega), Nat.add_sub_cancel]
        split
        · rename_i hi
          simp only [cnt]
          rw [bit_lt (pick_lt _ _ _ _) (Nat.le_refl _)]
          exact pick_cnt m hi
        · simp only [cnt]
          rw [pow_add_bit (pick_lt _ _ _ _), decide_eq_true rfl, Bool.true_or, if_pos rfl, cnt_pow_add (pick_lt _ _ _ _), pick_cnt m (by omega)]
    · rename_i hm
      rw [if_neg hm] at h
      simp only [cnt]
      rw [bit_lt (pick_lt _ _ _ _) (Nat.le_refl _)]
      exact pick_cnt m h
theorem rank_congr (m : Nat) {a b : Nat} : ∀ n : Nat, (∀ i, i < n → a.testBit i = b.testBit i) → rank m a n = rank m b n
  | 0, _ => rfl
  | n + 1, h => by
    simp only [rank]
    rw [h n (by omega), cnt_congr (n + 1) h, rank_congr m n fun i hi => h i (by omega)]
theorem rank_pow_add (m : Nat) {n x : Nat} (hx : x < 2 ^ n) : rank m (2 ^ n + x) n = rank m x n := rank_congr m n fun i hi => by rw [pow_add_bit hx, decide_eq_false (by omega), Bool.false_or]
theorem rank_pick (m : Nat) : ∀ {n k i : Nat}, i < bc (cnt m n) k → rank m (pick m n k i) n = i
  | 0, k, i, h => by
    cases k with
    | zero => simp [cnt, bc] at h; simp [rank, h]
    | succ k => simp [cnt, bc] at h
  | n + 1, k, i, h => by
    simp only [cnt] at h
    have hz : ∀ n, rank m 0 n = 0 := fun n => by
      induction n with
      | zero => rfl
      | succ n ih => simp only [rank, Nat.zero_testBit, Bool.and_false, ih]; rfl
    simp only [pick]
    split
    · rename_i hm
      rw [if_pos hm] at h
      cases k with
      | zero => rw [bc_zero] at h; rw [if_pos rfl, hz]; omega
      | succ k =>
        rw [bc] at h
        rw [if_neg (by omega), Nat.add_sub_cancel]
        split
        · rename_i hi
          simp only [rank]
          rw [bit_lt (pick_lt _ _ _ _) (Nat.le_refl _), Bool.and_false]
          exact rank_pick m hi
        · have hc := pick_cnt m (n := n) (k := k) (i := i - bc (cnt m n) (k + 1)) (by omega)
          simp only [rank, cnt]
          rw [pow_add_bit (pick_lt _ _ _ _), decide_eq_true rfl, Bool.true_or, hm, Bool.and_true, if_pos rfl, if_pos rfl, cnt_pow_add (pick_lt _ _ _ _), rank_pow_add m (pick_lt _ _ _ _), hc, rank_pick m (by omega)]
          omega
    · rename_i hm
      rw [if_neg hm] at h
      simp only [rank]
      rw [bit_lt (pick_lt _ _ _ _) (Nat.le_refl _), Bool.and_false]
      exact rank_pick m h
theorem rank_lt {m g : Nat} (h : Sub g m) : ∀ n : Nat, rank m g n < bc (cnt m n) (cnt g n)
  | 0 => Nat.zero_lt_one
  | n + 1 => by
    have ih := rank_lt h n
    simp only [rank, cnt]
    cases hg : g.testBit n with
    | true =>
      rw [h n hg, Bool.and_true, if_pos rfl, if_pos rfl]
      show bc (cnt m n) (cnt g n + 1) + rank m g n < bc (cnt m n + 1) (cnt g n + 1)
      rw [bc]
      omega
    | false =>
      rw [Bool.and_false]
      cases hm : m.testBit n with
      | false => exact ih
      | true =>
        show rank m g n < bc (cnt m n + 1) (cnt g n)
        cases hk : cnt g n with
        | zero => rw [bc_zero]; rw [hk, bc_zero] at ih; exact ih
        | succ k => rw [bc]; rw [hk] at ih; omega
end Go.Deal

/- How many ones a number of 64 bits has, as math/bits counts them, is how many bits are set. -/
namespace Go.Deal
theorem and_split (a M c : Nat) (hc : c < 256) : a &&& (256 * M + c) = 256 * (a / 256 &&& M) + (a % 256 &&& c) := by
  have h1 : (a % 256 &&& c) < 2 ^ 8 := Nat.lt_of_le_of_lt Nat.and_le_right hc
  refine Nat.eq_of_testBit_eq fun i => ?_
  rw [Nat.testBit_and, show 256 = 2 ^ 8 by decide, Nat.testBit_two_pow_mul_add _ (show c < 2 ^ 8 from hc), Nat.testBit_two_pow_mul_add _ h1]
  split
  · rename_i hi
    have e : (a % 256).testBit i = a.testBit i := by rw [show 256 = 2 ^ 8 by decide, Nat.testBit_mod_two_pow, decide_eq_true hi, Bool.true_and]
    rw [Nat.testBit_and]
    first | rw [e] | (rw [show (2 : Nat) ^ 8 = 256 by decide, e])
  · rename_i hi
    rw [Nat.testBit_and, Nat.testBit_div_two_pow, show i - 8 + 8 = i by omega]
def h1 (x M : Nat) : Nat := (x / 2 &&& M) + (x &&& M)
def h2 (x M : Nat) : Nat := (x / 4 &&& M) + (x &&& M)
def h3 (x M : Nat) : Nat := (x / 16 + x) &&& M
def p1 (b : Nat) : Nat := (b / 2 &&& 85) + (b &&& 85)
def p2 (b : Nat) : Nat := (b / 4 &&& 51) + (b &&& 51)
def p3 (b : Nat) : Nat := (b / 16 + b) &&& 15
theorem f1 : ∀ t : Fin 2, ∀ b : Fin 256, (128 * t.val + b.val / 2) &&& 85 = b.val / 2 &&& 85 := by decide +kernel
theorem f2 : ∀ t : Fin 4, ∀ b : Fin 256, (64 * t.val + b.val / 4) &&& 51 = b.val / 4 &&& 51 := by decide +kernel
theorem f3 : ∀ t : Fin 5, ∀ b : Fin 256, (16 * t.val + (p2 (p1 b.val) / 16 + p2 (p1 b.val))) &&& 15 = p3 (p2 (p1 b.val)) ∧ 16 * t.val + (p2 (p1 b.val) / 16 + p2 (p1 b.val)) < 256 ∧ p2 (p1 b.val) % 16 ≤ 4 ∧ p1 b.val < 256 ∧ p2 (p1 b.val) < 256 ∧ p3 (p2 (p1 b.val)) = cnt b.val 8 ∧ cnt b.val 8 ≤ 8 := by decide +kernel
theorem s1 (y M : Nat) {b : Nat} (hb : b < 256) : h1 (256 * y + b) (256 * M + 85) = 256 * h1 y M + p1 b := by
  have e := f1 ⟨y % 2, by omega⟩ ⟨b, hb⟩
  dsimp only at e
  unfold h1 p1
  rw [and_split _ _ _ (by decide), and_split _ _ _ (by decide), show (256 * y + b) / 2 / 256 = y / 2 by omega, show (256 * y + b) / 2 % 256 = 128 * (y % 2) + b / 2 by omega, show (256 * y + b) / 256 = y by omega, show (256 * y + b) % 256 = b by omega, e, Nat.mul_add]
  omega
theorem s2 (y M : Nat) {b : Nat} (hb : b < 256) : h2 (256 * y + b) (256 * M + 51) = 256 * h2 y M + p2 b := by
  have e := f2 ⟨y % 4, by omega⟩ ⟨b, hb⟩
  dsimp only at e
  unfold h2 p2
  rw [and_split _ _ _ (by decide), and_split _ _ _ (by decide), show (256 * y + b) / 4 / 256 = y / 4 by omega, show (256 * y + b) / 4 % 256 = 64 * (y % 4) + b / 4 by omega, show (256 * y + b) / 256 = y by omega, show (256 * y + b) % 256 = b by omega, e, Nat.mul_add]
  omega
theorem s3 (y M : Nat) {b : Nat} (hb : b < 256) (hy : y % 16 ≤ 4) : h3 (256 * y + p2 (p1 b)) (256 * M + 15) = 256 * h3 y M + p3 (p2 (p1 b)) := by
  obtain ⟨e1, e2, _, _, e5, _, _⟩ := f3 ⟨y % 16, by omega⟩ ⟨b, hb⟩
  dsimp only at e1 e2 e5
  unfold h3
  generalize hq : p2 (p1 b) = q at *
  rw [and_split _ _ _ (by decide), show ((256 * y + q) / 16 + (256 * y + q)) / 256 = y / 16 + y by omega, show ((256 * y + q) / 16 + (256 * y + q)) % 256 = 16 * (y % 16) + (q / 16 + q) by omega, e1]
def by8 (b0 b1 b2 b3 b4 b5 b6 b7 : Nat) : Nat := 256 * (256 * (256 * (256 * (256 * (256 * (256 * (256 * 0 + b7) + b6) + b5) + b4) + b3) + b2) + b1) + b0
theorem all3 {b0 b1 b2 b3 b4 b5 b6 b7 : Nat} (h0 : b0 < 256) (g1 : b1 < 256) (g2 : b2 < 256) (g3 : b3 < 256) (g4 : b4 < 256) (g5 : b5 < 256) (g6 : b6 < 256) (g7 : b7 < 256) :
    h3 (h2 (h1 (by8 b0 b1 b2 b3 b4 b5 b6 b7) 6148914691236517205) 3689348814741910323) 1085102592571150095 = by8 (cnt b0 8) (cnt b1 8) (cnt b2 8) (cnt b3 8) (cnt b4 8) (cnt b5 8) (cnt b6 8) (cnt b7 8) := by
  have q0 := (f3 0 ⟨b0, h0⟩).2.2; have q1 := (f3 0 ⟨b1, g1⟩).2.2; have q2 := (f3 0 ⟨b2, g2⟩).2.2; have q3 := (f3 0 ⟨b3, g3⟩).2.2
  have q4 := (f3 0 ⟨b4, g4⟩).2.2; have q5 := (f3 0 ⟨b5, g5⟩).2.2; have q6 := (f3 0 ⟨b6, g6⟩).2.2; have q7 := (f3 0 ⟨b7, g7⟩).2.2
  dsimp only at q0 q1 q2 q3 q4 q5 q6 q7
  have m1 : 6148914691236517205 = 256 * (256 * (256 * (256 * (256 * (256 * (256 * (256 * 0 + 85) + 85) + 85) + 85) + 85) + 85) + 85) + 85 := by decide
  have m2 : 3689348814741910323 = 256 * (256 * (256 * (256 * (256 * (256 * (256 * (256 * 0 + 51) + 51) + 51) + 51) + 51) + 51) + 51) + 51 := by decide
  have m3 : 1085102592571150095 = 256 * (256 * (256 * (256 * (256 * (256 * (256 * (256 * 0 + 15) + 15) + 15) + 15) + 15) + 15) + 15) + 15 := by decide
  rw [by8, m1, s1 _ _ h0, s1 _ _ g1, s1 _ _ g2, s1 _ _ g3, s1 _ _ g4, s1 _ _ g5, s1 _ _ g6, s1 _ _ g7, show h1 0 0 = 0 by decide]
  rw [m2, s2 _ _ q0.2.1, s2 _ _ q1.2.1, s2 _ _ q2.2.1, s2 _ _ q3.2.1, s2 _ _ q4.2.1, s2 _ _ q5.2.1, s2 _ _ q6.2.1, s2 _ _ q7.2.1, show h2 0 0 = 0 by decide]
  rw [m3, s3 _ _ h0 (by omega), s3 _ _ g1 (by omega), s3 _ _ g2 (by omega), s3 _ _ g3 (by omega), s3 _ _ g4 (by omega), s3 _ _ g5 (by omega), s3 _ _ g6 (by omega), s3 _ _ g7 (by omega), show h3 0 0 = 0 by decide]
  rw [q0.2.2.2.1, q1.2.2.2.1, q2.2.2.2.1, q3.2.2.2.1, q4.2.2.2.1, q5.2.2.2.1, q6.2.2.2.1, q7.2.2.2.1, by8]
theorem cnt_byte (y : Nat) {b : Nat} (hb : b < 256) : ∀ n : Nat, cnt (256 * y + b) (n + 8) = cnt y n + cnt b 8
  | 0 => by
    rw [Nat.zero_add, show cnt y 0 = 0 from rfl, Nat.zero_add]
    exact cnt_congr 8 fun i hi => by rw [show 256 = 2 ^ 8 by decide, Nat.testBit_two_pow_mul_add _ (show b < 2 ^ 8 from hb), if_pos hi]
  | n + 1 => by
    have ih := cnt_byte y hb n
    have cs : ∀ m k : Nat, cnt m (k + 1) = if m.testBit k then cnt m k + 1 else cnt m k := fun _ _ => rfl
    rw [show n + 1 + 8 = (n + 8) + 1 by omega, cs _ (n + 8), ih, cs y n, show 256 = 2 ^ 8 by decide, Nat.testBit_two_pow_mul_add _ (show b < 2 ^ 8 from hb), if_neg (show ¬ n + 8 < 8 by omega), show n + 8 - 8 = n by omega]
    split <;> omega
theorem by8_cnt {b0 b1 b2 b3 b4 b5 b6 b7 : Nat} (h0 : b0 < 256) (g1 : b1 < 256) (g2 : b2 < 256) (g3 : b3 < 256) (g4 : b4 < 256) (g5 : b5 < 256) (g6 : b6 < 256) (g7 : b7 < 256) :
    cnt (by8 b0 b1 b2 b3 b4 b5 b6 b7) 64 = cnt b0 8 + cnt b1 8 + cnt b2 8 + cnt b3 8 + cnt b4 8 + cnt b5 8 + cnt b6 8 + cnt b7 8 := by
  rw [by8, show 64 = 0 + 8 + 8 + 8 + 8 + 8 + 8 + 8 + 8 by decide, cnt_byte _ h0, cnt_byte _ g1, cnt_byte _ g2, cnt_byte _ g3, cnt_byte _ g4, cnt_byte _ g5, cnt_byte _ g6, cnt_byte _ g7]
  simp only [cnt]; omega
theorem by8_of {x : Nat} (h : x < 18446744073709551616) : ∃ b0 b1 b2 b3 b4 b5 b6 b7, b0 < 256 ∧ b1 < 256 ∧ b2 < 256 ∧ b3 < 256 ∧ b4 < 256 ∧ b5 < 256 ∧ b6 < 256 ∧ b7 < 256 ∧ x = by8 b0 b1 b2 b3 b4 b5 b6 b7 := by
  refine ⟨x % 256, x / 256 % 256, x / 65536 % 256, x / 16777216 % 256, x / 4294967296 % 256, x / 1099511627776 % 256, x / 281474976710656 % 256, x / 72057594037927936 % 256, by omega, by omega, by omega, by omega, by omega, by omega, by omega, by omega, ?_⟩
  unfold by8; omega
theorem and127 (x : Nat) : x &&& 127 = x % 128 := by rw [show 127 = 2 ^ 7 - 1 by decide, Nat.and_two_pow_sub_one_eq_mod]
def pcN (x : Nat) : Nat :=
  let a := h3 (h2 (h1 x 6148914691236517205) 3689348814741910323) 1085102592571150095
  let b := a + a / 256
  let c := b + b / 65536
  (c + c / 4294967296) &&& 127
theorem fin1 {c0 c1 c2 c3 c4 c5 c6 c7 : Nat} (h0 : c0 ≤ 8) : by8 c0 c1 c2 c3 c4 c5 c6 c7 / 256 = by8 c1 c2 c3 c4 c5 c6 c7 0 := by unfold by8; omega
theorem fin2 {c0 c1 c2 c3 c4 c5 c6 c7 d0 d1 d2 d3 d4 d5 d6 d7 : Nat} : by8 c0 c1 c2 c3 c4 c5 c6 c7 + by8 d0 d1 d2 d3 d4 d5 d6 d7 = by8 (c0 + d0) (c1 + d1) (c2 + d2) (c3 + d3) (c4 + d4) (c5 + d5) (c6 + d6) (c7 + d7) := by unfold by8; omega
theorem fin3 {c0 c1 c2 c3 c4 c5 c6 c7 : Nat} (h0 : c0 ≤ 16) (h1 : c1 ≤ 16) : by8 c0 c1 c2 c3 c4 c5 c6 c7 / 65536 = by8 c2 c3 c4 c5 c6 c7 0 0 := by
  have e : by8 c0 c1 c2 c3 c4 c5 c6 c7 = 65536 * by8 c2 c3 c4 c5 c6 c7 0 0 + (256 * c1 + c0) := by unfold by8; omega
  rw [e]; omega
theorem fin4 {c0 c1 c2 c3 c4 c5 c6 c7 : Nat} (h0 : c0 ≤ 32) (h1 : c1 ≤ 32) (h2 : c2 ≤ 32) (h3 : c3 ≤ 32) : by8 c0 c1 c2 c3 c4 c5 c6 c7 / 4294967296 = by8 c4 c5 c6 c7 0 0 0 0 := by
  have e : by8 c0 c1 c2 c3 c4 c5 c6 c7 = 4294967296 * by8 c4 c5 c6 c7 0 0 0 0 + (256 * (256 * (256 * c3 + c2) + c1) + c0) := by unfold by8; omega
  rw [e]; omega
theorem fin5 {c0 c1 c2 c3 c4 c5 c6 c7 : Nat} (h : c0 < 128) : by8 c0 c1 c2 c3 c4 c5 c6 c7 % 128 = c0 := by
  have e : by8 c0 c1 c2 c3 c4 c5 c6 c7 = 128 * (2 * (256 * (256 * (256 * (256 * (256 * (256 * c7 + c6) + c5) + c4) + c3) + c2) + c1)) + c0 := by unfold by8; omega
  rw [e]; omega
theorem fin6 {c0 c1 c2 c3 c4 c5 c6 c7 : Nat} (h0 : c0 ≤ 8) (h1 : c1 ≤ 8) (h2 : c2 ≤ 8) (h3 : c3 ≤ 8) (h4 : c4 ≤ 8) (h5 : c5 ≤ 8) (h6 : c6 ≤ 8) (h7 : c7 ≤ 8) : by8 c0 c1 c2 c3 c4 c5 c6 c7 ≤ 578721382704613384 := by unfold by8; omega
theorem pc_is {x : Nat} (h : x < 18446744073709551616) : pcN x = cnt x 64 ∧
    h3 (h2 (h1 x 6148914691236517205) 3689348814741910323) 1085102592571150095 ≤ 578721382704613384 := by
  obtain ⟨b0, b1, b2, b3, b4, b5, b6, b7, h0, g1, g2, g3, g4, g5, g6, g7, rfl⟩ := by8_of h
  have q0 := (f3 0 ⟨b0, h0⟩).2.2.2.2.2.2; have q1 := (f3 0 ⟨b1, g1⟩).2.2.2.2.2.2; have q2 := (f3 0 ⟨b2, g2⟩).2.2.2.2.2.2; have q3 := (f3 0 ⟨b3, g3⟩).2.2.2.2.2.2
  have q4 := (f3 0 ⟨b4, g4⟩).2.2.2.2.2.2; have q5 := (f3 0 ⟨b5, g5⟩).2.2.2.2.2.2; have q6 := (f3 0 ⟨b6, g6⟩).2.2.2.2.2.2; have q7 := (f3 0 ⟨b7, g7⟩).2.2.2.2.2.2
  dsimp only at q0 q1 q2 q3 q4 q5 q6 q7
  unfold pcN
  rw [all3 h0 g1 g2 g3 g4 g5 g6 g7, by8_cnt h0 g1 g2 g3 g4 g5 g6 g7, and127]
  refine ⟨?_, fin6 q0 q1 q2 q3 q4 q5 q6 q7⟩
  rw [fin1 q0, fin2, fin3 (by omega) (by omega), fin2, fin4 (by omega) (by omega) (by omega) (by omega), fin2, fin5 (by omega)]
  omega
theorem cnt_52 {x : Nat} (h : x < 2 ^ 52) : cnt x 64 = cnt x 52 := by
  have : ∀ n, cnt x (52 + n) = cnt x 52 := fun n => by
    induction n with
    | zero => rfl
    | succ n ih => rw [← Nat.add_assoc, cnt, bit_lt h (by omega)]; exact ih
  exact this 12
end Go.Deal
