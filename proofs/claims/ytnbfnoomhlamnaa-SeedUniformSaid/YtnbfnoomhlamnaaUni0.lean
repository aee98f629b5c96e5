/- Chapter 3: a search over intervals: what it means when it ends with true. -/
import Derived.KernelRfl
namespace Go.Proofs.Ytnbfnoomhlamnaa
open Go

/-- Each multiplier: its absolute value, what is added, and the number of the step. -/
def uE : List (Nat × Nat × Nat) := [(5, 0, 92), (156709, 0, 16), (241355, 0, 93), (1851437, 1073741824, 38), (2120394, 1073741824, 43),
  (2178244, 0, 31), (2908687, 1073741824, 2), (4512582, 1073741824, 12), (7471077, 1073741824, 62), (10965209, 1073741824, 89),
  (14523489, 0, 95), (21384769, 1073741824, 100), (53580610, 0, 64), (76222069, 1073741824, 69), (80682579, 1073741824, 32),
  (90276375, 1073741824, 58), (110705232, 1073741824, 98), (116053703, 1073741824, 49), (123676839, 0, 15), (125761312, 1073741824, 27),
  (140894829, 0, 63), (152367045, 1073741824, 87), (167751001, 0, 82), (183348681, 1073741824, 35), (199214974, 0, 26),
  (202836525, 0, 22), (215992144, 0, 14), (221861780, 0, 88), (231916355, 1073741824, 42), (233160398, 0, 68),
  (250228365, 0, 78), (264712782, 0, 75), (280638173, 1073741824, 6), (311978517, 0, 28), (344073030, 1073741824, 97),
  (358403607, 1073741824, 7), (371614036, 0, 77), (372253265, 1073741824, 8), (376647319, 0, 10), (389982365, 0, 1),
  (423000272, 0, 76), (434313129, 1073741824, 47), (442067983, 1073741824, 71), (466149477, 0, 81), (473730973, 0, 4)]
noncomputable def uStep (ih rec : Nat → Nat → Bool) (a c lo hi : Nat) : Bool :=
  (fun r => Bool.rec (motive := fun _ => Bool)
    ((fun s => Bool.rec (motive := fun _ => Bool) true (rec s hi) (Nat.ble s hi)) (Nat.add lo (Nat.div (Nat.sub (Nat.add 1073741824 a) r) a)))
    ((fun e => Bool.rec (motive := fun _ => Bool) (Bool.rec (motive := fun _ => Bool) false (rec (Nat.succ e) hi) (ih lo e)) (ih lo hi) (Nat.ble hi e)) (Nat.add lo (Nat.div (Nat.sub 2147483646 r) a)))
    (Nat.ble 1073741825 r)) (Nat.mod (Nat.add (Nat.mul a lo) c) 2147483647)
noncomputable def uLoop (ih : Nat → Nat → Bool) (a c : Nat) (n : Nat) : Nat → Nat → Bool :=
  Nat.rec (motive := fun _ => Nat → Nat → Bool) (fun _ _ => false) (fun _ rec lo hi => uStep ih rec a c lo hi) n
noncomputable def uGo (l : List (Nat × Nat × Nat)) : Nat → Nat → Bool :=
  List.rec (motive := fun _ => Nat → Nat → Bool) (fun _ _ => false) (fun m _ ih lo hi => Prod.rec (motive := fun _ => Bool) (fun a ce => Prod.rec (motive := fun _ => Bool) (fun c _ => uLoop ih a c 200000 lo hi) ce) m) l
theorem uLow {a c lo y r : Nat} (hr : (a * lo + c) % 2147483647 = r) (h1 : r ≤ 1073741824) (hy : lo ≤ y) (h2 : y < lo + (1073741824 + a - r) / a) : (a * y + c) % 2147483647 ≤ 1073741824 := by
  obtain ⟨d, rfl⟩ := Nat.exists_eq_add_of_le hy
  have h3 : d + 1 ≤ (1073741824 + a - r) / a := by omega
  have h4 : a * (d + 1) ≤ a * ((1073741824 + a - r) / a) := Nat.mul_le_mul_left _ h3
  have h5 : a * ((1073741824 + a - r) / a) ≤ 1073741824 + a - r := Nat.mul_div_le _ _
  rw [Nat.mul_add, Nat.mul_one] at h4
  have e : a * (lo + d) + c = (a * lo + c) + a * d := by rw [Nat.mul_add]; omega
  rw [e, Nat.add_mod, hr]
  omega
theorem uStep_ok {ih rec : Nat → Nat → Bool} {Q : Nat → Prop} {a c : Nat} (h1 : ∀ lo hi, ih lo hi = true → ∀ y, lo ≤ y → y ≤ hi → Q y) (h2 : ∀ lo hi, rec lo hi = true → ∀ y, lo ≤ y → y ≤ hi → Q y ∨ (a * y + c) % 2147483647 ≤ 1073741824)
    {lo hi : Nat} (h : uStep ih rec a c lo hi = true) (y : Nat) (hy1 : lo ≤ y) (hy2 : y ≤ hi) : Q y ∨ (a * y + c) % 2147483647 ≤ 1073741824 := by
  have h : (fun r => Bool.rec (motive := fun _ => Bool) ((fun s => Bool.rec (motive := fun _ => Bool) true (rec s hi) (Nat.ble s hi)) (lo + (1073741824 + a - r) / a))
    ((fun e => Bool.rec (motive := fun _ => Bool) (Bool.rec (motive := fun _ => Bool) false (rec (e + 1) hi) (ih lo e)) (ih lo hi) (Nat.ble hi e)) (lo + (2147483646 - r) / a)) (Nat.ble 1073741825 r)) ((a * lo + c) % 2147483647) = true := h
  dsimp only at h
  generalize hr : (a * lo + c) % 2147483647 = r at h
  cases hb : Nat.ble 1073741825 r with
  | false =>
    rw [hb] at h
    have hr2 : r ≤ 1073741824 := by
      rcases Nat.lt_or_ge 1073741824 r with h3 | h3
      · rw [Nat.ble_eq_true_of_le h3] at hb; cases hb
      · exact h3
    generalize hs : lo + (1073741824 + a - r) / a = s at h
    rcases Nat.lt_or_ge y s with h3 | h3
    · exact .inr (uLow hr hr2 hy1 (hs ▸ h3))
    · have hb2 : Nat.ble s hi = true := Nat.ble_eq_true_of_le (Nat.le_trans h3 hy2)
      rw [hb2] at h
      exact h2 s hi h y h3 hy2
  | true =>
    rw [hb] at h
    generalize lo + (2147483646 - r) / a = e at h
    dsimp only at h
    cases hb2 : Nat.ble hi e with
    | true => rw [hb2] at h; exact .inl (h1 lo hi h y hy1 hy2)
    | false =>
      rw [hb2] at h
      dsimp only at h
      cases hi1 : ih lo e with
      | false => rw [hi1] at h; cases h
      | true =>
        rw [hi1] at h
        rcases Nat.lt_or_ge e y with h3 | h3
        · exact h2 (e + 1) hi h y h3 hy2
        · exact .inl (h1 lo e hi1 y hy1 h3)
theorem uLoop_ok {ih : Nat → Nat → Bool} {Q : Nat → Prop} {a c : Nat} (h1 : ∀ lo hi, ih lo hi = true → ∀ y, lo ≤ y → y ≤ hi → Q y) : ∀ n lo hi, uLoop ih a c n lo hi = true → ∀ y, lo ≤ y → y ≤ hi → Q y ∨ (a * y + c) % 2147483647 ≤ 1073741824
  | 0, _, _, h, _, _, _ => by cases h
  | n + 1, lo, hi, h, y, hy1, hy2 => uStep_ok (rec := uLoop ih a c n) h1 (uLoop_ok h1 n) (show uStep ih (uLoop ih a c n) a c lo hi = true from h) y hy1 hy2
theorem uGo_ok : ∀ (l : List (Nat × Nat × Nat)) lo hi, uGo l lo hi = true → ∀ y, lo ≤ y → y ≤ hi → ∃ m ∈ l, (m.1 * y + m.2.1) % 2147483647 ≤ 1073741824
  | [], _, _, h, _, _, _ => by cases h
  | (a, c, e) :: l, lo, hi, h, y, hy1, hy2 => by
    have h : uLoop (uGo l) a c 200000 lo hi = true := h
    rcases uLoop_ok (Q := fun y => ∃ m ∈ l, (m.1 * y + m.2.1) % 2147483647 ≤ 1073741824) (uGo_ok l) _ _ _ h y hy1 hy2 with ⟨m, hm, h2⟩ | h2
    · exact ⟨m, List.mem_cons_of_mem _ hm, h2⟩
    · exact ⟨(a, c, e), List.mem_cons_self .., h2⟩
end Go.Proofs.Ytnbfnoomhlamnaa
