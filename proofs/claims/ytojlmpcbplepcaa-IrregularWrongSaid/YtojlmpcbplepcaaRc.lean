/- Chapter 10: right courses stay right. -/
import Derived.Test.YtojlmpcbplepcaaGc
namespace Go.Proofs.Ytojlmpcbplepcaa
open Go Go.Eng
def q4ok (lo hi : Int) (q : Q4) : Prop := ∀ k, k < 4 → lo ≤ q.at k ∧ q.at k ≤ hi
theorem at_set {q : Q4} {v : Int} {k j : Nat} (hk : k < 4) (hj : j < 4) : (q.set v k).at j = if j = k then v else q.at j := by
  have h1 : k = 0 ∨ k = 1 ∨ k = 2 ∨ k = 3 := by omega
  have h2 : j = 0 ∨ j = 1 ∨ j = 2 ∨ j = 3 := by omega
  rcases h1 with rfl | rfl | rfl | rfl <;> rcases h2 with rfl | rfl | rfl | rfl <;> rfl
theorem q4ok.set {lo hi : Int} {q : Q4} (h : q4ok lo hi q) {v : Int} {k : Nat} (hk : k < 4) (hv : lo ≤ v ∧ v ≤ hi) : q4ok lo hi (q.set v k) := by
  intro j hj
  rw [at_set hk hj]
  split
  · exact hv
  · exact h j hj
theorem or_nat8 {a b : Nat} (ha : a < 256) (hb : b < 256) : bitsI .or .u8 (a : Int) (b : Int) = ((a ||| b : Nat) : Int) := by
  have hab : a ||| b < 256 := Nat.or_lt_two_pow (n := 8) ha hb
  show wr .u8 ((BitVec.ofInt 8 (a : Int) ||| BitVec.ofInt 8 (b : Int)).toNat : Int) = _
  rw [BitVec.toNat_or, BitVec.ofInt_natCast, BitVec.ofInt_natCast, BitVec.toNat_ofNat, BitVec.toNat_ofNat, Nat.mod_eq_of_lt (by omega), Nat.mod_eq_of_lt (by omega)]
  exact wr_u8_id (by omega)
theorem or_15 {a b : Int} (ha : 0 ≤ a ∧ a ≤ 15) (hb : 0 ≤ b ∧ b ≤ 15) : 0 ≤ bitsI .or .u8 a b ∧ bitsI .or .u8 a b ≤ 15 := by
  obtain ⟨m, rfl⟩ : ∃ m : Nat, a = m := ⟨a.toNat, by omega⟩
  obtain ⟨n, rfl⟩ : ∃ n : Nat, b = n := ⟨b.toNat, by omega⟩
  rw [or_nat8 (by omega) (by omega)]
  have : m ||| n < 16 := Nat.or_lt_two_pow (n := 4) (by omega) (by omega)
  omega
theorem suI_range (x : Int) : 0 ≤ suI x ∧ suI x ≤ 15 := by
  unfold suI sdI
  cases isBid x with
  | false => exact ⟨by show (0 : Int) ≤ 0; omega, by show (0 : Int) ≤ 15; omega⟩
  | true =>
    simp only [cond_true]
    cases decide (dnI x = 0) <;> cases decide (dnI x = 1) <;> cases decide (dnI x = 2) <;> cases decide (dnI x = 3) <;> decide
/-- A right course, but that it may be over while something is to be changed. -/
structure RC (s : CD) (xs ac : List Int) : Prop where
  d : 0 ≤ s.d ∧ s.d ≤ 3
  gc : GC s.d xs ac
  h : 0 ≤ s.h ∧ s.h ≤ 38
  p : q4ok (-1) 100 s.p
  a : q4ok 0 38 s.a
  f : q4ok 0 15 s.f
def HO (s : CD) (xs : List Int) : Prop := s.h = 0 ∨ ovI s.d xs = false
theorem RC.gi {s : CD} {xs ac : List Int} (h : RC s xs ac) (hl : xs.length ≤ 1000000) : GI s.d xs := h.gc.gi h.d hl
theorem RC.right {s : CD} {xs ac : List Int} (h : RC s xs ac) (ho : HO s xs) (hl : xs.length ≤ 400) : rgtI s xs ac = true := by
  have hg := h.gc.right [] (fun z hz => by cases hz)
  rw [List.append_nil] at hg
  unfold rgtI
  rw [hg]
  have hh : (headL s xs).any id = false := by
    have z1 : Int.ofNat xs.length = (xs.length : Int) := rfl
    have p0 := h.p 0 (by omega); have p1 := h.p 1 (by omega); have p2 := h.p 2 (by omega); have p3 := h.p 3 (by omega)
    have a0 := h.a 0 (by omega); have a1 := h.a 1 (by omega); have a2 := h.a 2 (by omega); have a3 := h.a 3 (by omega)
    have f0 := h.f 0 (by omega); have f1 := h.f 1 (by omega); have f2 := h.f 2 (by omega); have f3 := h.f 3 (by omega)
    simp only [Q4.at] at p0 p1 p2 p3 a0 a1 a2 a3 f0 f1 f2 f3
    have hd := h.d
    have hh := h.h
    unfold headL seatB
    rw [z1, decide_eq_false (show ¬ 3 < s.d by omega), decide_eq_false (show ¬ (400 : Int) < (xs.length : Int) by omega), decide_eq_false (show ¬ 38 < s.h by omega),
      decide_eq_false (show ¬ s.p.a < -1 by omega), decide_eq_false (show ¬ 100 < s.p.a by omega), decide_eq_false (show ¬ 38 < s.a.a by omega), decide_eq_false (show ¬ 15 < s.f.a by omega),
      decide_eq_false (show ¬ s.p.b < -1 by omega), decide_eq_false (show ¬ 100 < s.p.b by omega), decide_eq_false (show ¬ 38 < s.a.b by omega), decide_eq_false (show ¬ 15 < s.f.b by omega),
      decide_eq_false (show ¬ s.p.c < -1 by omega), decide_eq_false (show ¬ 100 < s.p.c by omega), decide_eq_false (show ¬ 38 < s.a.c by omega), decide_eq_false (show ¬ 15 < s.f.c by omega),
      decide_eq_false (show ¬ s.p.d < -1 by omega), decide_eq_false (show ¬ 100 < s.p.d by omega), decide_eq_false (show ¬ 38 < s.a.d by omega), decide_eq_false (show ¬ 15 < s.f.d by omega)]
    rfl
  rw [hh]
  rcases ho with h0 | h0
  · rw [decide_eq_true h0]; simp
  · rw [h0]; simp
theorem RC.ok {s : CD} {xs ac : List Int} (h : RC s xs ac) (hl : xs.length ≤ 100000) : okL xs = true := by
  refine okL_iff.2 ⟨hl, ?_⟩
  rw [allU_iff]
  intro c hc
  have := (h.gi (by omega)).k c hc
  omega
theorem RC.dk {s : CD} {xs ac : List Int} (h : RC s xs ac) : dkB s = true := decide_eq_true (by have := h.d; omega)
theorem RC.tnn {s : CD} {xs ac : List Int} (h : RC s xs ac) (hl : xs.length ≤ 100000) : (tN s xs : Int) = (s.d + xs.length) % 4 ∧ tN s xs < 4 := by
  obtain ⟨h1, h2⟩ := tN_lt s xs (h.ok hl) (by have := h.d; omega)
  refine ⟨?_, h2⟩
  rw [← h1]
  exact mk_is h.d (by omega)
theorem mate_lt (k : Nat) : mate k < 4 := by unfold mate; omega
/-! ### changes -/
theorem RC.setP {s : CD} {xs ac : List Int} (h : RC s xs ac) {v : Int} {k : Nat} (hk : k < 4) (hv : -1 ≤ v ∧ v ≤ 100) : RC (s.setP v k) xs ac := ⟨h.d, h.gc, h.h, h.p.set hk hv, h.a, h.f⟩
theorem RC.setA {s : CD} {xs ac : List Int} (h : RC s xs ac) {v : Int} {k : Nat} (hk : k < 4) (hv : 0 ≤ v ∧ v ≤ 38) : RC (s.setA v k) xs ac := ⟨h.d, h.gc, h.h, h.p, h.a.set hk hv, h.f⟩
theorem RC.setF {s : CD} {xs ac : List Int} (h : RC s xs ac) {v : Int} {k : Nat} (hk : k < 4) (hv : 0 ≤ v ∧ v ≤ 15) : RC (s.setF v k) xs ac := ⟨h.d, h.gc, h.h, h.p, h.a, h.f.set hk hv⟩
theorem RC.setH {s : CD} {xs ac : List Int} (h : RC s xs ac) {v : Int} (hv : 0 ≤ v ∧ v ≤ 38) : RC (s.setH v) xs ac := ⟨h.d, h.gc, hv, h.p, h.a, h.f⟩
theorem RC.sil {s : CD} {xs ac : List Int} (h : RC s xs ac) {k j : Nat} (hk : k < 4) (hj : j < 4) (x : Int) : RC (silI suI s k j x) xs ac := by
  unfold silI
  exact (h.setP hk (by omega)).setF hj (or_15 (h.f j hj) (suI_range x))
theorem RC.dec {s : CD} {xs ac : List Int} (h : RC s xs ac) {k : Nat} (hk : k < 4) (hp : 0 < s.p.at k) : RC (s.setP (wr .i64 (s.p.at k - 1)) k) xs ac := by
  have := h.p k hk
  rw [wr64 (by omega) (by omega)]
  exact h.setP hk (by omega)
theorem RC.met {s : CD} {xs ac : List Int} (h : RC s xs ac) {k : Nat} (hk : k < 4) : RC (metI s k) xs ac := by
  unfold metI
  cases hd : decide (0 < s.p.at k) with
  | true => exact (h.dec hk (of_decide_eq_true hd)).setA hk (by omega)
  | false => exact h.setA hk (by omega)
theorem RC.rai {s : CD} {xs ac : List Int} (h : RC s xs ac) {k : Nat} (hk : k < 4) : RC (raiI s k) xs ac := by
  unfold raiI
  cases decide (s.p.at k = 0) with
  | true => exact h.setP hk (by omega)
  | false => exact h
theorem RC.calls {s : CD} {xs ac ys bc : List Int} (h : RC s xs ac) (hg : GC s.d ys bc) : RC s ys bc := ⟨h.d, hg, h.h, h.p, h.a, h.f⟩
/-- A free call more. -/
theorem RC.free {s : CD} {xs ac : List Int} (h : RC s xs ac) (hl : xs.length ≤ 1000000) {x : Int} (hx : 0 ≤ x) (hf : frI s.d xs x = true) : RC s (xs ++ [x]) ac := by
  have g := h.gi hl
  obtain ⟨h1, h2⟩ := g.free hf
  refine h.calls (.free h.gc h1 ?_ hf hx)
  cases hb : isBid x with
  | false => unfold lwI; rw [hb]; rfl
  | true =>
    rw [g.bid h1 hb] at hf
    simpa using hf
theorem RC.low {s : CD} {xs ac : List Int} (h : RC s xs ac) {x : Int} (ho : ovI s.d xs = false) (hx : lwI xs x = true) : RC s (xs ++ [x]) (ac ++ [(xs.length : Int)]) := h.calls (.low h.gc ho hx)
theorem lg_fr {s : CD} {xs : List Int} {x : Int} (h : lgI s xs x = true) : frI s.d xs x = true := by
  unfold lgI at h
  simp only [Bool.and_eq_true] at h
  exact h.1
theorem doS_d (k : Nat) (xs : List Int) (s : CD) (x : Int) : (doS k xs s x).d = s.d ∧ (doS k xs s x).h = 0 := by
  unfold doS
  dsimp only
  cases decide (0 < s.p.at k) <;> (simp only [cond_true, cond_false]; constructor <;> (try split) <;> simp only [cond_eq_ite] <;> (repeat' split) <;> rfl)
theorem RC.do15 {s : CD} {xs ac : List Int} (h : RC s xs ac) (hl : xs.length ≤ 100000) {x : Int} (hx : 0 ≤ x) (hg : lgI s xs x = true) : RC (doS (tN s xs) xs s x) (xs ++ [x]) ac := by
  have hk := (h.tnn hl).2
  have h0 := h.free (by omega) hx (lg_fr hg)
  unfold doS
  dsimp only
  generalize tN s xs = k at *
  have h1 : RC (bif decide (0 < s.p.at k) then s.setP (wr .i64 (s.p.at k - 1)) k else s) (xs ++ [x]) ac := by
    cases hd : decide (0 < s.p.at k) with
    | true => exact h0.dec hk (of_decide_eq_true hd)
    | false => exact h0
  generalize (bif decide (0 < s.p.at k) then s.setP (wr .i64 (s.p.at k - 1)) k else s) = s1 at *
  have h2 : RC (bif decide (0 < s.a.at k) && (!psI xs && decide (s1.p.at (mate k) = 0)) then s1.setP 1 (mate k) else s1) (xs ++ [x]) ac := by
    cases (decide (0 < s.a.at k) && (!psI xs && decide (s1.p.at (mate k) = 0))) with
    | true => exact h1.setP (mate_lt k) (by omega)
    | false => exact h1
  generalize (bif decide (0 < s.a.at k) && (!psI xs && decide (s1.p.at (mate k) = 0)) then s1.setP 1 (mate k) else s1) = s2 at *
  have h3 := h2.setA (v := 0) hk (by omega)
  refine RC.setH ?_ (by omega)
  cases (decide (0 < s.h) && !mnI s.h xs x) with
  | true => exact h3.sil (mate_lt k) (mate_lt k) _
  | false => exact h3
end Go.Proofs.Ytojlmpcbplepcaa
