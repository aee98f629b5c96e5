/- Texts merged: OrdR, Dm7, Nm. -/
import Derived.Test.YtpalajfcffdhoaaGreatDoorDm5
import Derived.Lib.ItoaNum
/- Chapter 6: order: one round. -/
namespace Go.Proofs.YtpalajfcffdhoaaGreatDoor
open Go Go.Eng
noncomputable def odA : Code := rangeA 6 Tryz.f67
noncomputable def odB : Code := rangeB 6 Tryz.f67
def odF : TS := mkS [(3, .ptr 0 0), (4, .ptr 1 0), (5, .ptr 2 0), (6, .ptr 3 0), (7, .ptr 4 0), (8, .ptr 5 0)] 0 52
def z4 : TR := .vs [.lit .u32 0, .lit .u32 0, .lit .u32 0, .lit .u32 0]
noncomputable def odBl : List TB := [.own 22 u1, .own 34 z4, .own 34 n4, .own 3 i1, .own 3 i1, .own 34 n4, .own 22 u1, .defs, .loopB .ready 67 odF [24] odA odB 7]
noncomputable def odT : Tm := ⟨mkS [(0, .yield 8), (1, .ptr 6 0), (3, .int .u64)] 0 19, odBl, []⟩
noncomputable def odX : Tm := ⟨mkS [] 0 19, odBl, []⟩
noncomputable def odSt (e : XE) (l : List PV) : RT := some (e, l, [(odA, odA), (odB, odB)])
def bitI (r c : Int) : Int := bitsI .and .u64 (r.fdiv (2 ^ shAmt .u64 c)) 1
section
variable (N : N6) (K : Int → Int → Int → Bool) (W : Int → Int → Int → Int)
noncomputable def odK (r c g i0 i1 i2 i3 n k c0 c1 c2 c3 m f : Int) : RT :=
  bif decide (c < 0) then none else
  bif decide (bitI g c = 0) then bif decide (c < 0) then none else
      odSt .normal [.i (bitsI .andNot .u64 r (shlI c)), .i g, .i i0, .i i1, .i i2, .i i3, .i (wr .i64 (n - 1)), .i k, .i (N.w0 f), .i (N.w1 f), .i (N.w2 f), .i (N.w3 f), .i m]
    else bif N.inn i0 i1 i2 i3 && N.i f then bif N.inn c0 c1 c2 c3 && N.i f then bif decide (c < 0) then none else
      odSt .normal [.i (bitsI .andNot .u64 r (shlI c)), .i g, .i (N.w0 (N.add (N.z i0 i1 i2 i3) (N.q f))), .i (N.w1 (N.add (N.z i0 i1 i2 i3) (N.q f))), .i (N.w2 (N.add (N.z i0 i1 i2 i3) (N.q f))), .i (N.w3 (N.add (N.z i0 i1 i2 i3) (N.q f))),
        .i (wr .i64 (n - 1)), .i (wr .i64 (k - 1)), .i (N.w0 (N.sub (N.z c0 c1 c2 c3) (N.q f))), .i (N.w1 (N.sub (N.z c0 c1 c2 c3) (N.q f))), .i (N.w2 (N.sub (N.z c0 c1 c2 c3) (N.q f))), .i (N.w3 (N.sub (N.z c0 c1 c2 c3) (N.q f))), .i m]
    else none else none
noncomputable def odN (r c g i0 i1 i2 i3 n k c0 c1 c2 c3 m : Int) : RT := bif !decide (r = 0) then bif N.u r then
  bif N.inn c0 c1 c2 c3 && K (N.z c0 c1 c2 c3) n k then odK N r c g i0 i1 i2 i3 n k c0 c1 c2 c3 m (W (N.z c0 c1 c2 c3) n k) else none
  else none else odSt (.exit 0) [.i g, .i i0, .i i1, .i i2, .i i3, .i n, .i k, .i c0, .i c1, .i c2, .i c3, .i m]
theorem od_round (rd : Option Nat) (r g i0 i1 i2 i3 n k c0 c1 c2 c3 m : Int) : roundT Tryz.prog (orcN N (tabW N K W) plainL) noLoops 100 9 rd 117 sbLp odT odX [.i r, .i g, .i i0, .i i1, .i i2, .i i3, .i n, .i k, .i c0, .i c1, .i c2, .i c3, .i m] =
    odN N K W r (wr .i64 (N.len r - 1)) g i0 i1 i2 i3 n k c0 c1 c2 c3 m := by kernel_rfl
end
end Go.Proofs.YtpalajfcffdhoaaGreatDoor

/- Chapter 6, plainly: the choice with a number, card by card from the highest one. -/
namespace Go.Deal
theorem cnt_s (m n : Nat) : cnt m (n + 1) = if m.testBit n then cnt m n + 1 else cnt m n := rfl
def pe (m : Nat) : Nat → Nat → Nat → Option Nat
  | 0, _, _ => none
  | n + 1, k, i => if m.testBit n then
      (if k = 0 then some (cnt m (n + 1)) else if i < bc (cnt m n) k then pe m n k i else pe m n (k - 1) (i - bc (cnt m n) k))
    else pe m n k i
section
variable {m t : Nat}
theorem cnt_skip : ∀ {p : Nat}, t < p → (∀ j, t < j → j < p → m.testBit j = false) → cnt m p = cnt m (t + 1)
  | p + 1, h, hz => by
    by_cases e : t = p
    · rw [e]
    · rw [cnt_s, hz p (by omega) (by omega)]
      exact cnt_skip (p := p) (by omega) fun j h1 h2 => hz j h1 (by omega)
theorem pick_skip (k i : Nat) : ∀ {p : Nat}, t < p → (∀ j, t < j → j < p → m.testBit j = false) → pick m p k i = pick m (t + 1) k i
  | p + 1, h, hz => by
    by_cases e : t = p
    · rw [e]
    · have : pick m (p + 1) k i = pick m p k i := by simp only [pick]; rw [hz p (by omega) (by omega)]; rfl
      rw [this]
      exact pick_skip k i (p := p) (by omega) fun j h1 h2 => hz j h1 (by omega)
theorem pe_skip (k i : Nat) : ∀ {p : Nat}, t < p → (∀ j, t < j → j < p → m.testBit j = false) → pe m p k i = pe m (t + 1) k i
  | p + 1, h, hz => by
    by_cases e : t = p
    · rw [e]
    · have : pe m (p + 1) k i = pe m p k i := by simp only [pe]; rw [hz p (by omega) (by omega)]; rfl
      rw [this]
      exact pe_skip k i (p := p) (by omega) fun j h1 h2 => hz j h1 (by omega)
theorem rank_skip (g : Nat) : ∀ {p : Nat}, t < p → (∀ j, t < j → j < p → m.testBit j = false) → rank m g p = rank m g (t + 1)
  | p + 1, h, hz => by
    by_cases e : t = p
    · rw [e]
    · have : rank m g (p + 1) = rank m g p := by simp only [rank]; rw [hz p (by omega) (by omega)]; rfl
      rw [this]
      exact rank_skip g (p := p) (by omega) fun j h1 h2 => hz j h1 (by omega)
theorem none_all : ∀ {p : Nat}, (∀ j, j < p → m.testBit j = false) → cnt m p = 0 ∧ (∀ k i, pick m p k i = 0) ∧ (∀ k i, pe m p k i = none) ∧ (∀ g, rank m g p = 0)
  | 0, _ => ⟨rfl, fun _ _ => rfl, fun _ _ => rfl, fun _ => rfl⟩
  | p + 1, h => by
    obtain ⟨a, b, c, d⟩ := none_all (p := p) fun j hj => h j (by omega)
    have hp := h p (by omega)
    refine ⟨?_, fun k i => ?_, fun k i => ?_, fun g => ?_⟩
    · rw [cnt_s, hp]; exact a
    · simp only [pick]; rw [hp]; exact b k i
    · simp only [pe]; rw [hp]; exact c k i
    · simp only [rank]; rw [hp]; exact d g
end
theorem top_spec {m p : Nat} (hp : p ≤ 64) (h0 : m % 2 ^ p ≠ 0) : ∃ t, t < p ∧ Lib.bitLen (m % 2 ^ p) = t + 1 ∧ m.testBit t = true ∧ (∀ j, t < j → j < p → m.testBit j = false) ∧ nd (m % 2 ^ p) (2 ^ t) = m % 2 ^ t := by
  have hlt : m % 2 ^ p < 2 ^ p := Nat.mod_lt _ (Nat.two_pow_pos p)
  have hle : 2 ^ p ≤ 2 ^ 64 := Nat.pow_le_pow_right (by decide) hp
  obtain ⟨b1, b2, b3⟩ := Lib.bitLenAux_bounds 64 (m % 2 ^ p) (by omega) h0
  have e : Lib.bitLen (m % 2 ^ p) = Lib.bitLenAux 64 (m % 2 ^ p) := rfl
  rw [e]
  generalize Lib.bitLenAux 64 (m % 2 ^ p) = L at *
  have hb : ∀ i, (m % 2 ^ p).testBit i = (decide (i < p) && m.testBit i) := fun i => Nat.testBit_mod_two_pow ..
  have hL : L - 1 < p := by
    rcases Nat.lt_or_ge (L - 1) p with h | h
    · exact h
    · have : 2 ^ p ≤ 2 ^ (L - 1) := Nat.pow_le_pow_right (by decide) h
      omega
  have htop : (m % 2 ^ p).testBit (L - 1) = true := by
    cases hq : (m % 2 ^ p).testBit (L - 1) with
    | true => rfl
    | false =>
      have : m % 2 ^ p < 2 ^ (L - 1) := lt_bit fun i hi => by
        by_cases e : i = L - 1
        · rw [e]; exact hq
        · exact bit_lt b3 (by omega)
      omega
  have hm : m.testBit (L - 1) = true := by
    rw [hb, Bool.and_eq_true] at htop; exact htop.2
  have hab : ∀ j, L - 1 < j → j < p → m.testBit j = false := fun j h1 h2 => by
    have := bit_lt (i := j) b3 (by omega)
    rw [hb, decide_eq_true h2, Bool.true_and] at this
    exact this
  refine ⟨L - 1, hL, by omega, hm, hab, Nat.eq_of_testBit_eq fun i => ?_⟩
  rw [nd_bit, hb, Nat.testBit_two_pow, Nat.testBit_mod_two_pow]
  by_cases h1 : i < L - 1
  · rw [decide_eq_true (show i < p by omega), decide_eq_false (show ¬ L - 1 = i by omega), decide_eq_true h1]; simp
  · rw [decide_eq_false h1]
    by_cases h2 : L - 1 = i
    · rw [decide_eq_true h2]; simp
    · by_cases h3 : i < p
      · rw [hab i (by omega) h3]; simp
      · rw [decide_eq_false h3]; simp
theorem mod_zero {m p : Nat} (h0 : m % 2 ^ p = 0) : ∀ j, j < p → m.testBit j = false := fun j hj => by
  have : (m % 2 ^ p).testBit j = false := by rw [h0]; exact Nat.zero_testBit j
  rw [Nat.testBit_mod_two_pow, decide_eq_true hj, Bool.true_and] at this
  exact this
end Go.Deal

/- Chapter 6: the names of nat stand for numbers; without, others. -/
namespace Go.Proofs.YtpalajfcffdhoaaGreatDoor
open Go Go.Eng Go.Deal
theorem ch_bc : ∀ n k : Nat, N2.ch n k = Deal.bc n k
  | _, 0 => by rw [N2.ch_zero, Deal.bc_zero]
  | 0, k + 1 => rfl
  | n + 1, k + 1 => by rw [N2.ch, Deal.bc, ch_bc n k, ch_bc n (k + 1)]
theorem zq {x : Nat} (h : x < 340282366920938463463374607431768211456) : n6.z (N2.w0 (x : Int)) (N2.w1 (x : Int)) (N2.w2 (x : Int)) (N2.w3 (x : Int)) = (x : Int) := by
  rw [show n6.z = N2.nval from rfl, N2.nval_w]; omega
theorem qq {x : Nat} (h : x < 340282366920938463463374607431768211456) : n6.q (x : Int) = (x : Int) := zq h
theorem ini (x : Int) : n6.inn (N2.w0 x) (N2.w1 x) (N2.w2 x) (N2.w3 x) = true := N2.inN_w x
theorem ii (x : Int) : n6.i x = true := N2.inN_w x
theorem chq {n k : Nat} (hn : n ≤ 128) (hk : k ≤ n) : n6.ch (n : Int) (k : Int) = ((bc n k : Nat) : Int) := by
  rw [show n6.ch = N2.chZ from rfl]
  rw [N2.chZ_eq (by omega), if_pos (by omega), Int.toNat_natCast, Int.toNat_natCast, ch_bc]
theorem mulq {x y : Nat} (h : x * y < 340282366920938463463374607431768211456) : n6.mul (x : Int) (y : Int) = ((x * y : Nat) : Int) := by
  rw [show n6.mul = N2.mulZ from rfl]
  unfold N2.mulZ
  rw [← Int.natCast_mul, decide_eq_true (by omega)]; rfl
theorem quoq {x y : Nat} (h : 0 < y) : n6.quo (x : Int) (y : Int) = ((x / y : Nat) : Int) := by
  rw [show n6.quo = N2.divZ from rfl]
  unfold N2.divZ
  rw [decide_eq_false (by omega)]; rfl
theorem remq {x y : Nat} (h : 0 < y) : n6.rem (x : Int) (y : Int) = ((x % y : Nat) : Int) := by
  rw [show n6.rem = N2.remZ from rfl]
  unfold N2.remZ
  rw [decide_eq_false (by omega)]; rfl
theorem addq {x y : Nat} (h : x + y < 340282366920938463463374607431768211456) : n6.add (x : Int) (y : Int) = ((x + y : Nat) : Int) := by
  rw [show n6.add = N2.addZ from rfl]
  unfold N2.addZ
  rw [← Int.natCast_add, decide_eq_true (by omega)]; rfl
theorem subq {x y : Nat} (h : y ≤ x) : n6.sub (x : Int) (y : Int) = ((x - y : Nat) : Int) := by
  rw [show n6.sub = N2.subZ from rfl]
  unfold N2.subZ
  rw [decide_eq_false (by omega)]
  rw [cond_false]; omega
theorem cmpq (x y : Nat) : decide (n6.cmp (x : Int) (y : Int) < 0) = decide (x < y) := by
  rw [show n6.cmp = N2.cmpI from rfl, N2.cmp_lt]
  by_cases h : x < y
  · rw [decide_eq_true h, decide_eq_true (by omega)]
  · rw [decide_eq_false h, decide_eq_false (by omega)]
theorem smallz (x : Nat) : n6.z (x : Int) 0 0 0 = (x : Int) := by
  rw [show n6.z = N2.nval from rfl]
  unfold N2.nval; omega
theorem smalli {x : Nat} (h : x < 4294967296) : n6.inn (x : Int) 0 0 0 = true := by
  rw [show n6.inn = N2.inN from rfl, N2.inN_iff]; omega
def k6 (z n k : Int) : Bool := decide (0 ≤ z ∧ z < 4503599627370497 ∧ 1 ≤ n ∧ n ≤ 52 ∧ 0 ≤ k ∧ k ≤ n)
def w6 (z n k : Int) : Int := z * (n - k) / n
theorem w6_is {n k : Nat} (h1 : 1 ≤ n) (hk : k ≤ n) : w6 ((bc n k : Nat) : Int) (n : Int) (k : Int) = ((bc (n - 1) k : Nat) : Int) := by
  unfold w6
  rw [show (n : Int) - (k : Int) = ((n - k : Nat) : Int) by omega, ← Int.natCast_mul, ← Int.natCast_ediv, bc_without (by omega)]
theorem bc_52 {n k : Nat} (h : n ≤ 52) : bc n k < 4503599627370497 := by
  have := bc_le n k
  have h2 : 2 ^ n ≤ 2 ^ 52 := Nat.pow_le_pow_right (by decide) h
  omega
theorem wt_p {a b c d n k : Int} (hi : N2.inN a b c d = true) (hk : k6 (N2.nval a b c d) n k = true) : FnPure Tryz.prog 96 [.agg [.int .u32 a, .int .u32 b, .int .u32 c, .int .u32 d], .int .i64 n, .int .i64 k] (n6.nW (w6 (N2.nval a b c d) n k)) := by
  refine fnPure_of_eval (N := 100) (orcN_ok tabN_ok plainL_ok) mixed Tryz.func96 (by kernel_rfl) noLoops_ok ?_ rfl rfl
  unfold k6 at hk
  simp only [decide_eq_true_eq] at hk
  obtain ⟨z1, z2, n1, n2, k1, k2⟩ := hk
  have hi' : n6.inn a b c d = true := hi
  rw [wt_eval, hi']
  have e : n6.z a b c d = N2.nval a b c d := rfl
  rw [e]
  obtain ⟨z, hz⟩ : ∃ z : Nat, N2.nval a b c d = z := ⟨_, (Int.toNat_of_nonneg z1).symm⟩
  obtain ⟨n', rfl⟩ : ∃ x : Nat, n = x := ⟨n.toNat, by omega⟩
  obtain ⟨k', rfl⟩ : ∃ x : Nat, k = x := ⟨k.toNat, by omega⟩
  rw [hz] at z2 ⊢
  have d1 : wr .u32 (wr .i64 ((n' : Int) - (k' : Int))) = ((n' - k' : Nat) : Int) := by
    rw [wr64 (by omega) (by omega), N2.wr32 (by omega) (by omega)]; omega
  have d2 : wr .u32 (n' : Int) = ((n' : Nat) : Int) := N2.wr32 (by omega) (by omega)
  have hp : z * (n' - k') < 340282366920938463463374607431768211456 := Nat.lt_of_le_of_lt (Nat.mul_le_mul (show z ≤ 4503599627370497 by omega) (show n' - k' ≤ 52 by omega)) (by decide)
  unfold wtI
  rw [d1, d2, smalli (by omega), smalli (by omega), smallz, smallz, mulq hp, ii, qq hp, quoq (by omega)]
  unfold w6
  rw [show (n' : Int) - (k' : Int) = ((n' - k' : Nat) : Int) by omega, ← Int.natCast_mul, ← Int.natCast_ediv]
  rfl
theorem tabW_ok : PTabOk Tryz.prog (tabW n6 k6 w6) := by
  refine addTab_ok ?_ tabN_ok
  intro args c v h hc
  unfold gWt at h
  split at h
  · cases h
    rw [Bool.and_eq_true] at hc
    exact wt_p hc.1 hc.2
  · cases h
end Go.Proofs.YtpalajfcffdhoaaGreatDoor
