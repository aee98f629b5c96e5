/- Chapter 3: no 101 states that follow each other are all in the upper half. -/
import Derived.Test.YtnbfnoomhlamnaaUni1
import Derived.Test.YtnbfnoomhlamnaaUni2
import Derived.Test.YtnbfnoomhlamnaaUni3
import Derived.Test.YtnbfnoomhlamnaaUni4
namespace Go.Proofs.Ytnbfnoomhlamnaa
open Go
theorem uni_all (y : Nat) (hy : y < 2147483647) : ∃ m ∈ uE, (m.1 * y + m.2.1) % 2147483647 ≤ 1073741824 := by
  rcases Nat.lt_or_ge y 59652324 with h | h0
  · exact uGo_ok _ _ _ uni_0 y (by omega) (by omega)
  rcases Nat.lt_or_ge y 119304648 with h | h1
  · exact uGo_ok _ _ _ uni_1 y (by omega) (by omega)
  rcases Nat.lt_or_ge y 178956972 with h | h2
  · exact uGo_ok _ _ _ uni_2 y (by omega) (by omega)
  rcases Nat.lt_or_ge y 238609296 with h | h3
  · exact uGo_ok _ _ _ uni_3 y (by omega) (by omega)
  rcases Nat.lt_or_ge y 298261620 with h | h4
  · exact uGo_ok _ _ _ uni_4 y (by omega) (by omega)
  rcases Nat.lt_or_ge y 357913944 with h | h5
  · exact uGo_ok _ _ _ uni_5 y (by omega) (by omega)
  rcases Nat.lt_or_ge y 417566268 with h | h6
  · exact uGo_ok _ _ _ uni_6 y (by omega) (by omega)
  rcases Nat.lt_or_ge y 477218592 with h | h7
  · exact uGo_ok _ _ _ uni_7 y (by omega) (by omega)
  rcases Nat.lt_or_ge y 536870916 with h | h8
  · exact uGo_ok _ _ _ uni_8 y (by omega) (by omega)
  rcases Nat.lt_or_ge y 596523240 with h | h9
  · exact uGo_ok _ _ _ uni_9 y (by omega) (by omega)
  rcases Nat.lt_or_ge y 656175564 with h | h10
  · exact uGo_ok _ _ _ uni_10 y (by omega) (by omega)
  rcases Nat.lt_or_ge y 715827888 with h | h11
  · exact uGo_ok _ _ _ uni_11 y (by omega) (by omega)
  rcases Nat.lt_or_ge y 775480212 with h | h12
  · exact uGo_ok _ _ _ uni_12 y (by omega) (by omega)
  rcases Nat.lt_or_ge y 835132536 with h | h13
  · exact uGo_ok _ _ _ uni_13 y (by omega) (by omega)
  rcases Nat.lt_or_ge y 894784860 with h | h14
  · exact uGo_ok _ _ _ uni_14 y (by omega) (by omega)
  rcases Nat.lt_or_ge y 954437184 with h | h15
  · exact uGo_ok _ _ _ uni_15 y (by omega) (by omega)
  rcases Nat.lt_or_ge y 1014089508 with h | h16
  · exact uGo_ok _ _ _ uni_16 y (by omega) (by omega)
  rcases Nat.lt_or_ge y 1073741832 with h | h17
  · exact uGo_ok _ _ _ uni_17 y (by omega) (by omega)
  rcases Nat.lt_or_ge y 1133394156 with h | h18
  · exact uGo_ok _ _ _ uni_18 y (by omega) (by omega)
  rcases Nat.lt_or_ge y 1193046480 with h | h19
  · exact uGo_ok _ _ _ uni_19 y (by omega) (by omega)
  rcases Nat.lt_or_ge y 1252698804 with h | h20
  · exact uGo_ok _ _ _ uni_20 y (by omega) (by omega)
  rcases Nat.lt_or_ge y 1312351128 with h | h21
  · exact uGo_ok _ _ _ uni_21 y (by omega) (by omega)
  rcases Nat.lt_or_ge y 1372003452 with h | h22
  · exact uGo_ok _ _ _ uni_22 y (by omega) (by omega)
  rcases Nat.lt_or_ge y 1431655776 with h | h23
  · exact uGo_ok _ _ _ uni_23 y (by omega) (by omega)
  rcases Nat.lt_or_ge y 1491308100 with h | h24
  · exact uGo_ok _ _ _ uni_24 y (by omega) (by omega)
  rcases Nat.lt_or_ge y 1550960424 with h | h25
  · exact uGo_ok _ _ _ uni_25 y (by omega) (by omega)
  rcases Nat.lt_or_ge y 1610612748 with h | h26
  · exact uGo_ok _ _ _ uni_26 y (by omega) (by omega)
  rcases Nat.lt_or_ge y 1670265072 with h | h27
  · exact uGo_ok _ _ _ uni_27 y (by omega) (by omega)
  rcases Nat.lt_or_ge y 1729917396 with h | h28
  · exact uGo_ok _ _ _ uni_28 y (by omega) (by omega)
  rcases Nat.lt_or_ge y 1789569720 with h | h29
  · exact uGo_ok _ _ _ uni_29 y (by omega) (by omega)
  rcases Nat.lt_or_ge y 1849222044 with h | h30
  · exact uGo_ok _ _ _ uni_30 y (by omega) (by omega)
  rcases Nat.lt_or_ge y 1908874368 with h | h31
  · exact uGo_ok _ _ _ uni_31 y (by omega) (by omega)
  rcases Nat.lt_or_ge y 1968526692 with h | h32
  · exact uGo_ok _ _ _ uni_32 y (by omega) (by omega)
  rcases Nat.lt_or_ge y 2028179016 with h | h33
  · exact uGo_ok _ _ _ uni_33 y (by omega) (by omega)
  rcases Nat.lt_or_ge y 2087831340 with h | h34
  · exact uGo_ok _ _ _ uni_34 y (by omega) (by omega)
  exact uGo_ok _ _ _ uni_35 y (by omega) (by omega)
def uChk (m : Nat × Nat × Nat) : Bool := Nat.ble m.2.2 100 && (Nat.beq m.2.1 0 && Nat.beq ((1602868768 * 48271 ^ m.2.2) % 2147483647) m.1 || Nat.beq m.2.1 1073741824 && Nat.beq ((1602868768 * 48271 ^ m.2.2) % 2147483647 + m.1) 2147483647)
theorem uChk_all : uE.all uChk = true := by kernel_rfl
theorem uMul (P a b c d : Nat) (h : a * d % P = 1) : (a * b % P) * (c * d % P) % P = c * b % P := by
  rw [← Nat.mul_mod, Nat.mul_comm c d, Nat.mul_mul_mul_comm, Nat.mul_mod, h, Nat.one_mul, Nat.mod_mod, Nat.mul_comm]
theorem uInv : 1602868768 * 1543201267 % 2147483647 = 1 := by kernel_rfl
theorem uFin {w a y : Nat} (h2 : w + a = 2147483647) (hy : (a * y + 1073741824) % 2147483647 ≤ 1073741824) : w * y % 2147483647 ≤ 1073741824 := by
  have e2 : w * y + a * y = 2147483647 * y := by rw [← Nat.add_mul, h2]
  generalize w * y = u at e2 ⊢
  generalize a * y = v at e2 hy
  omega
theorem uChk_use {a c e : Nat} (h : uChk (a, c, e) = true) : e ≤ 100 ∧ (c = 0 ∧ (1602868768 * 48271 ^ e) % 2147483647 = a ∨ c = 1073741824 ∧ (1602868768 * 48271 ^ e) % 2147483647 + a = 2147483647) := by
  simpa only [uChk, Bool.and_eq_true, Bool.or_eq_true, Nat.ble_eq, Nat.beq_eq] using h
theorem uUse {x a c e P q : Nat} (hq : 1602868768 * q % P = 1) (hP : P = 2147483647) (hy : (a * (x * q % P) + c) % P ≤ 1073741824) (hc : uChk (a, c, e) = true) : e ≤ 100 ∧ x * 48271 ^ e % P ≤ 1073741824 := by
  obtain ⟨he, hc⟩ := uChk_use hc
  refine ⟨he, ?_⟩
  rw [← hP] at hc
  have key := uMul P 1602868768 (48271 ^ e) x q hq
  generalize x * q % P = y at hy key
  generalize 1602868768 * 48271 ^ e % P = w at hc key
  rw [← key]
  subst hP
  rcases hc with ⟨rfl, rfl⟩ | ⟨rfl, h2⟩
  · exact hy
  · exact uFin h2 hy
/-- Among 101 states that follow each other there is one in the lower half. -/
theorem no_run (x : Nat) : ∃ e, e ≤ 100 ∧ x * 48271 ^ e % 2147483647 ≤ 1073741824 := by
  obtain ⟨⟨a, c, e⟩, hm, hy⟩ := uni_all (x * 1543201267 % 2147483647) (Nat.mod_lt _ (by omega))
  exact ⟨e, uUse (a := a) (c := c) uInv rfl hy (List.all_eq_true.1 uChk_all _ hm)⟩
end Go.Proofs.Ytnbfnoomhlamnaa
