/- Chapter 6, plainly: sets as numbers, how many cards they have, choices of them by number and back. -/
namespace Go.Deal
def bc : Nat → Nat → Nat
  | _, 0 => 1
  | 0, _ + 1 => 0
  | n + 1, k + 1 => bc n k + bc n (k + 1)
theorem bc_zero (n : Nat) : bc n 0 = 1 := by cases n <;> rfl
theorem bc_big : ∀ {n k : Nat}, n < k → bc n k = 0
  | 0, k + 1, _ => rfl
  | n + 1, k + 1, h => by rw [bc, bc_big (by omega), bc_big (by omega)]
theorem bc_self : ∀ n : Nat, bc n n = 1
  | 0 => rfl
  | n + 1 => by rw [bc, bc_self n, bc_big (by omega)]
theorem bc_le : ∀ n k : Nat, bc n k ≤ 2 ^ n
  | 0, 0 => by decide
  | 0, k + 1 => Nat.zero_le _
  | n + 1, 0 => by rw [bc_zero]; exact Nat.one_le_two_pow
  | n + 1, k + 1 => by
    have h1 := bc_le n k; have h2 := bc_le n (k + 1)
    rw [bc, Nat.pow_succ]; omega
theorem bc_pos : ∀ {n k : Nat}, k ≤ n → 0 < bc n k
  | _, 0, _ => by rw [bc_zero]; decide
  | n + 1, k + 1, h => by have := bc_pos (n := n) (k := k) (by omega); rw [bc]; omega
/-- The choices without one certain thing. -/
theorem bc_less : ∀ n k : Nat, bc (n + 1) k * (n + 1 - k) = bc n k * (n + 1)
  | n, 0 => by simp [bc_zero]
  | 0, 1 => by decide
  | 0, k + 2 => by rw [bc_big (show 0 + 1 < k + 2 by omega), bc_big (show 0 < k + 2 by omega)]; simp
  | n + 1, k + 1 => by
    rcases Nat.lt_or_ge n k with h | h
    · rw [bc_big (show n + 1 < k + 1 by omega), show n + 1 + 1 - (k + 1) = 0 by omega]; simp
    · have h1 := bc_less n k
      have h2 := bc_less n (k + 1)
      have e : bc (n + 1 + 1) (k + 1) = bc (n + 1) k + bc (n + 1) (k + 1) := rfl
      have e2 : bc (n + 1) (k + 1) = bc n k + bc n (k + 1) := rfl
      obtain ⟨d, rfl⟩ : ∃ d, n = k + d := ⟨n - k, by omega⟩
      rw [show k + d + 1 - k = d + 1 by omega] at h1
      rw [show k + d + 1 - (k + 1) = d by omega] at h2
      rw [e, show k + d + 1 + 1 - (k + 1) = d + 1 by omega, Nat.add_mul, h1]
      have : bc (k + d + 1) (k + 1) * (d + 1) = bc (k + d) (k + 1) * (k + d + 1) + bc (k + d + 1) (k + 1) := by rw [Nat.mul_add, h2, Nat.mul_one]
      rw [this]
      have e3 : bc (k + d + 1) (k + 1) * (k + d + 1 + 1) = bc (k + d + 1) (k + 1) * (k + d + 1) + bc (k + d + 1) (k + 1) := by rw [Nat.mul_add, Nat.mul_one]
      have e4 : bc (k + d + 1) (k + 1) * (k + d + 1) = bc (k + d) k * (k + d + 1) + bc (k + d) (k + 1) * (k + d + 1) := by rw [e2, Nat.add_mul]
      omega
theorem bc_without {n k : Nat} (h : 0 < n) : bc n k * (n - k) / n = bc (n - 1) k := by
  obtain ⟨m, rfl⟩ : ∃ m, n = m + 1 := ⟨n - 1, by omega⟩
  rw [bc_less, show m + 1 - 1 = m by omega]
  exact Nat.mul_div_cancel _ (by omega)
/-! ### sets -/
def cnt (m : Nat) : Nat → Nat
  | 0 => 0
  | n + 1 => if m.testBit n then cnt m n + 1 else cnt m n
theorem cnt_le (m : Nat) : ∀ n, cnt m n ≤ n
  | 0 => Nat.le_refl _
  | n + 1 => by have := cnt_le m n; simp only [cnt]; split <;> omega
theorem cnt_congr {a b : Nat} : ∀ n : Nat, (∀ i, i < n → a.testBit i = b.testBit i) → cnt a n = cnt b n
  | 0, _ => rfl
  | n + 1, h => by simp only [cnt]; rw [h n (by omega), cnt_congr n fun i hi => h i (by omega)]
theorem cnt_zero : ∀ n : Nat, cnt 0 n = 0
  | 0 => rfl
  | n + 1 => by simp only [cnt, Nat.zero_testBit, cnt_zero n]; rfl
/-- One set less another. -/
def nd (a b : Nat) : Nat := a ^^^ (a &&& b)
theorem nd_bit (a b i : Nat) : (nd a b).testBit i = (a.testBit i && !b.testBit i) := by
  unfold nd
  rw [Nat.testBit_xor, Nat.testBit_and]
  cases a.testBit i <;> cases b.testBit i <;> rfl
def Sub (g m : Nat) : Prop := ∀ i, g.testBit i = true → m.testBit i = true
def Dis (a b : Nat) : Prop := ∀ i, a.testBit i = true → b.testBit i = true → False
theorem cnt_nd {m g : Nat} (h : Sub g m) : ∀ n, cnt (nd m g) n + cnt g n = cnt m n
  | 0 => rfl
  | n + 1 => by
    have ih := cnt_nd h n
    simp only [cnt]
    rw [nd_bit]
    cases hg : g.testBit n with
    | true => rw [h n hg]; simp; omega
    | false => cases m.testBit n <;> simp <;> omega
theorem cnt_or {a b : Nat} (h : Dis a b) : ∀ n, cnt (a ||| b) n = cnt a n + cnt b n
  | 0 => rfl
  | n + 1 => by
    have ih := cnt_or h n
    simp only [cnt]
    rw [Nat.testBit_or, ih]
    have hn := h n
    cases ha : a.testBit n <;> cases hb : b.testBit n <;> simp [ha, hb] at hn ⊢ <;> omega
theorem cnt_sub {g m : Nat} (h : Sub g m) (n : Nat) : cnt g n ≤ cnt m n := by have := cnt_nd h n; omega
theorem cnt_pos {g : Nat} : ∀ {n i : Nat}, i < n → g.testBit i = true → 0 < cnt g n
  | n + 1, i, hi, h => by
    simp only [cnt]
    by_cases e : i = n
    · subst e; rw [h]; simp
    · have := cnt_pos (n := n) (i := i) (by omega) h
      split <;> omega
theorem sub_cnt_eq {g m : Nat} (h : Sub g m) {n : Nat} (he : cnt g n = cnt m n) : ∀ i, i < n → g.testBit i = m.testBit i := by
  intro i hi
  have := cnt_nd h n
  cases hg : g.testBit i with
  | true => rw [h i hg]
  | false =>
    cases hm : m.testBit i with
    | false => rfl
    | true =>
      have := cnt_pos (g := nd m g) hi (by rw [nd_bit, hg, hm]; rfl)
      omega
theorem bit_lt {m n i : Nat} (h : m < 2 ^ n) (hi : n ≤ i) : m.testBit i = false := Nat.testBit_lt_two_pow (Nat.lt_of_lt_of_le h (Nat.pow_le_pow_right (by decide) hi))
theorem lt_bit {m n : Nat} (h : ∀ i, n ≤ i → m.testBit i = false) : m < 2 ^ n := Nat.lt_pow_two_of_testBit m h
theorem eq_bits {a b n : Nat} (ha : a < 2 ^ n) (hb : b < 2 ^ n) (h : ∀ i, i < n → a.testBit i = b.testBit i) : a = b :=
  Nat.eq_of_testBit_eq fun i => by
    rcases Nat.lt_or_ge i n with hi | hi
    · exact h i hi
    · rw [bit_lt ha hi, bit_lt hb hi]
theorem pow_add_bit {n x i : Nat} (hx : x < 2 ^ n) : (2 ^ n + x).testBit i = (decide (n = i) || x.testBit i) := by
  have e := Nat.two_pow_add_eq_or_of_lt hx 1
  rw [Nat.mul_one] at e
  rw [e, Nat.testBit_or, Nat.testBit_two_pow]
/-! ### the choice with a number, and back -/
def pick (m : Nat) : Nat → Nat → Nat → Nat
  | 0, _, _ => 0
  | n + 1, k, i => if m.testBit n then
      (if k = 0 then 0 else if i < bc (cnt m n) k then pick m n k i else 2 ^ n + pick m n (k - 1) (i - bc (cnt m n) k))
    else pick m n k i
def rank (m g : Nat) : Nat → Nat
  | 0 => 0
  | n + 1 => if m.testBit n && g.testBit n then bc (cnt m n) (cnt g (n + 1)) + rank m g n else rank m g n
theorem pick_lt (m : Nat) : ∀ n k i, pick m n k i < 2 ^ n
  | 0, _, _ => by simp [pick]
  | n + 1, k, i => by
    have hp : 2 ^ (n + 1) = 2 ^ n + 2 ^ n := by rw [Nat.pow_succ]; omega
    have h0 := Nat.two_pow_pos n
    simp only [pick]
    split
    · split
      · omega
      · split
        · have := pick_lt m n k i; omega
        · have := pick_lt m n (k - 1) (i - bc (cnt m n) k); omega
    · have := pick_lt m n k i; omega
theorem pick_sub (m : Nat) : ∀ n k i, Sub (pick m n k i) m
  | 0, _, _, j, h => by simp [pick] at h
  | n + 1, k, i, j, h => by
    simp only [pick] at h
    split at h
    · rename_i hm
      split at h
      · simp at h
      · split at h
        · exact pick_sub m n k i j h
        · rw [pow_add_bit (pick_lt _ _ _ _)] at h
          by_cases e : n = j
          · subst e; exact hm
          · rw [decide_eq_false e, Bool.false_or] at h
            exact pick_sub m n _ _ j h
    · exact pick_sub m n k i j h
theorem cnt_pow_add {n x : Nat} (hx : x < 2 ^ n) : cnt (2 ^ n + x) n = cnt x n := cnt_congr n fun i hi => by rw [pow_add_bit hx, decide_eq_false (by omega), Bool.false_or]
theorem pick_cnt (m : Nat) : ∀ {n k i : Nat}, i < bc (cnt m n) k → cnt (pick m n k i) n = k
  | 0, k, i, h => by
    cases k with
    | zero => rfl
    | succ k => simp [cnt, bc] at h
  | n + 1, k, i, h => by
    simp only [cnt] at h
    simp only [pick]
    split
    · rename_i hm
      rw [if_pos hm] at h
      cases k with
      | zero => rw [if_pos rfl, cnt_zero]
      | succ k =>
        rw [bc] at h
        rw [if_neg (by omega), Nat.add_sub_cancel]
        split
        · rename_i hi
          simp only [cnt]
          rw [bit_lt (pick_lt _ _ _ _) (Nat.le_refl _)]
          exact pick_cnt m hi
        · simp only [cnt]
          rw [pow_add_bit (pick_lt _ _ _ _), decide_eq_true rfl, Bool.true_or, if_pos rfl, cnt_pow_add (pick_lt _ _ _ _), pick_cnt m (by omega)]
    · rename_i hm
      rw [if_neg hm] at h
      simp only [cnt]
      rw [bit_lt (pick_lt _ _ _ _) (Nat.le_refl _)]
      exact pick_cnt m h
theorem rank_congr (m : Nat) {a b : Nat} : ∀ n : Nat, (∀ i, i < n → a.testBit i = b.testBit i) → rank m a n = rank m b n
  | 0, _ => rfl
  | n + 1, h => by
    simp only [rank]
    rw [h n (by omega), cnt_congr (n + 1) h, rank_congr m n fun i hi => h i (by omega)]
theorem rank_pow_add (m : Nat) {n x : Nat} (hx : x < 2 ^ n) : rank m (2 ^ n + x) n = rank m x n := rank_congr m n fun i hi => by rw [pow_add_bit hx, decide_eq_false (by omega), Bool.false_or]
theorem rank_pick (m : Nat) : ∀ {n k i : Nat}, i < bc (cnt m n) k → rank m (pick m n k i) n = i
  | 0, k, i, h => by
    cases k with
    | zero => simp [cnt, bc] at h; simp [rank, h]
    | succ k => simp [cnt, bc] at h
  | n + 1, k, i, h => by
    simp only [cnt] at h
    have hz : ∀ n, rank m 0 n = 0 := fun n => by
      induction n with
      | zero => rfl
      | succ n ih => simp only [rank, Nat.zero_testBit, Bool.and_false, ih]; rfl
    simp only [pick]
    split
    · rename_i hm
      rw [if_pos hm] at h
      cases k with
      | zero => rw [bc_zero] at h; rw [if_pos rfl, hz]; omega
      | succ k =>
        rw [bc] at h
        rw [if_neg (by omega), Nat.add_sub_cancel]
        split
        · rename_i hi
          simp only [rank]
          rw [bit_lt (pick_lt _ _ _ _) (Nat.le_refl _), Bool.and_false]
          exact rank_pick m hi
        · have hc := pick_cnt m (n := n) (k := k) (i := i - bc (cnt m n) (k + 1)) (by omega)
          simp only [rank, cnt]
          rw [pow_add_bit (pick_lt _ _ _ _), decide_eq_true rfl, Bool.true_or, hm, Bool.and_true, if_pos rfl, if_pos rfl, cnt_pow_add (pick_lt _ _ _ _), rank_pow_add m (pick_lt _ _ _ _), hc, rank_pick m (by omega)]
          omega
    · rename_i hm
      rw [if_neg hm] at h
      simp only [rank]
      rw [bit_lt (pick_lt _ _ _ _) (Nat.le_refl _), Bool.and_false]
      exact rank_pick m h
theorem rank_lt {m g : Nat} (h : Sub g m) : ∀ n : Nat, rank m g n < bc (cnt m n) (cnt g n)
  | 0 => Nat.zero_lt_one
  | n + 1 => by
    have ih := rank_lt h n
    simp only [rank, cnt]
    cases hg : g.testBit n with
    | true =>
      rw [h n hg, Bool.and_true, if_pos rfl, if_pos rfl]
      show bc (cnt m n) (cnt g n + 1) + rank m g n < bc (cnt m n + 1) (cnt g n + 1)
      rw [bc]
      omega
    | false =>
      rw [Bool.and_false]
      cases hm : m.testBit n with
      | false => exact ih
      | true =>
        show rank m g n < bc (cnt m n + 1) (cnt g n)
        cases hk : cnt g n with
        | zero => rw [bc_zero]; rw [hk, bc_zero] at ih; exact ih
        | succ k => rw [bc]; rw [hk] at ih; omega
theorem pick_mono (m : Nat) : ∀ {n k i j : Nat}, i < j → j < bc (cnt m n) k → pick m n k i < pick m n k j
  | 0, k, i, j, hij, h => by
    cases k with
    | zero => simp [cnt, bc] at h; omega
    | succ k => simp [cnt, bc] at h
  | n + 1, k, i, j, hij, h => by
    simp only [cnt] at h
    simp only [pick]
    split
    · rename_i hm
      rw [if_pos hm] at h
      cases k with
      | zero => rw [bc_zero] at h; omega
      | succ k =>
        rw [bc] at h
        rw [if_neg (Nat.succ_ne_zero k), if_neg (Nat.succ_ne_zero k), Nat.add_sub_cancel]
        by_cases hi : i < bc (cnt m n) (k + 1)
        · rw [if_pos hi]
          by_cases hj : j < bc (cnt m n) (k + 1)
          · rw [if_pos hj]; exact pick_mono m hij hj
          · rw [if_neg hj]; have := pick_lt m n (k + 1) i; omega
        · rw [if_neg hi, if_neg (by omega)]
          have := pick_mono m (n := n) (k := k) (i := i - bc (cnt m n) (k + 1)) (j := j - bc (cnt m n) (k + 1)) (by omega) (by omega)
          omega
    · rename_i hm
      rw [if_neg hm] at h
      exact pick_mono m hij h
theorem pick_rank {m g : Nat} (h : Sub g m) : ∀ {n : Nat}, g < 2 ^ n → pick m n (cnt g n) (rank m g n) = g
  | 0, hg => by simp at hg; simp [pick, hg]
  | n + 1, hg => by
    by_cases hb : g.testBit n = true
    · have hlt := rank_lt h n
      have hm := h n hb
      have e1 : cnt g (n + 1) = cnt g n + 1 := by simp only [cnt]; rw [if_pos hb]
      have e2 : rank m g (n + 1) = bc (cnt m n) (cnt g n + 1) + rank m g n := by simp only [rank]; rw [hm, hb, e1]; rfl
      rw [e1, e2]
      simp only [pick]
      rw [if_pos hm, if_neg (Nat.succ_ne_zero _), if_neg (by omega), Nat.add_sub_cancel, Nat.add_sub_cancel_left]
      have hp : 2 ^ (n + 1) = 2 ^ n + 2 ^ n := by rw [Nat.pow_succ]; omega
      have hge : 2 ^ n ≤ g := by
        rcases Nat.lt_or_ge g (2 ^ n) with h' | h'
        · rw [bit_lt h' (Nat.le_refl _)] at hb; cases hb
        · exact h'
      obtain ⟨x, rfl⟩ : ∃ x, g = 2 ^ n + x := ⟨g - 2 ^ n, by omega⟩
      have hx : x < 2 ^ n := by omega
      have hs : Sub x m := fun i hi => h i (by rw [pow_add_bit hx, hi, Bool.or_true])
      rw [cnt_pow_add hx, rank_pow_add m hx, pick_rank hs hx]
    · have hb : g.testBit n = false := by simpa using hb
      have hlt : g < 2 ^ n := lt_bit fun i hi => by
        by_cases e : i = n
        · subst e; exact hb
        · exact bit_lt hg (by omega)
      have ih := pick_rank h hlt
      have hr := rank_lt h n
      have e1 : cnt g (n + 1) = cnt g n := by simp only [cnt]; rw [hb]; rfl
      have e2 : rank m g (n + 1) = rank m g n := by simp only [rank]; rw [hb, Bool.and_false]; rfl
      rw [e1, e2]
      simp only [pick]
      split
      · split
        · rename_i h0
          refine (Nat.eq_of_testBit_eq fun i => ?_)
          rw [Nat.zero_testBit]
          cases hi : g.testBit i with
          | false => rfl
          | true =>
            have hin : i < n := by
              rcases Nat.lt_or_ge i n with h' | h'
              · exact h'
              · rw [bit_lt hlt h'] at hi; cases hi
            have := cnt_pos hin hi
            omega
        · exact ih
      · exact ih
theorem rank_mono {m a b n : Nat} (ha : Sub a m) (hb : Sub b m) (la : a < 2 ^ n) (lb : b < 2 ^ n) (hc : cnt a n = cnt b n) (h : a < b) : rank m a n < rank m b n := by
  rcases Nat.lt_or_ge (rank m a n) (rank m b n) with h' | h'
  · exact h'
  · exfalso
    have e1 := pick_rank ha la
    have e2 := pick_rank hb lb
    rcases Nat.lt_or_eq_of_le h' with h2 | h2
    · have := pick_mono m (n := n) (k := cnt a n) h2 (rank_lt ha n)
      rw [e1, hc, e2] at this
      omega
    · rw [h2, ← hc, e1] at e2; omega
theorem rank_inj {m a b n : Nat} (ha : Sub a m) (hb : Sub b m) (la : a < 2 ^ n) (lb : b < 2 ^ n) (hc : cnt a n = cnt b n) (h : rank m a n = rank m b n) : a = b := by
  rw [← pick_rank ha la, ← pick_rank hb lb, hc, h]
end Go.Deal
