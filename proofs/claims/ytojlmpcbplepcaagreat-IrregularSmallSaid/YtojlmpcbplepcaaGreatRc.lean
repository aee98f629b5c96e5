/- Texts merged: Rc, Rc2. -/
import Derived.Test.YtojlmpcbplepcaaGreatGc
/- Chapter 10: right courses stay right. -/
namespace Go.Proofs.YtojlmpcbplepcaaGreat
open Go Go.Eng
def q4ok (lo hi : Int) (q : Q4) : Prop := ∀ k, k < 4 → lo ≤ q.at k ∧ q.at k ≤ hi
theorem at_set {q : Q4} {v : Int} {k j : Nat} (hk : k < 4) (hj : j < 4) : (q.set v k).at j = if j = k then v else q.at j := by
  have h1 : k = 0 ∨ k = 1 ∨ k = 2 ∨ k = 3 := by omega
  have h2 : j = 0 ∨ j = 1 ∨ j = 2 ∨ j = 3 := by omega
  rcases h1 with rfl | rfl | rfl | rfl <;> rcases h2 with rfl | rfl | rfl | rfl <;> rfl
theorem q4ok.set {lo hi : Int} {q : Q4} (h : q4ok lo hi q) {v : Int} {k : Nat} (hk : k < 4) (hv : lo ≤ v ∧ v ≤ hi) : q4ok lo hi (q.set v k) := by
  intro j hj
  rw [at_set hk hj]
  split
  · exact hv
  · exact h j hj
theorem or_nat8 {a b : Nat} (ha : a < 256) (hb : b < 256) : bitsI .or .u8 (a : Int) (b : Int) = ((a ||| b : Nat) : Int) := by
  have hab : a ||| b < 256 := Nat.or_lt_two_pow (n := 8) ha hb
  show wr .u8 ((BitVec.ofInt 8 (a : Int) ||| BitVec.ofInt 8 (b : Int)).toNat : Int) = _
  rw [BitVec.toNat_or, BitVec.ofInt_natCast, BitVec.ofInt_natCast, BitVec.toNat_ofNat, BitVec.toNat_ofNat, Nat.mod_eq_of_lt (by omega), Nat.mod_eq_of_lt (by omega)]
  exact wr_u8_id (by omega)
theorem or_15 {a b : Int} (ha : 0 ≤ a ∧ a ≤ 15) (hb : 0 ≤ b ∧ b ≤ 15) : 0 ≤ bitsI .or .u8 a b ∧ bitsI .or .u8 a b ≤ 15 := by
  obtain ⟨m, rfl⟩ : ∃ m : Nat, a = m := ⟨a.toNat, by omega⟩
  obtain ⟨n, rfl⟩ : ∃ n : Nat, b = n := ⟨b.toNat, by omega⟩
  rw [or_nat8 (by omega) (by omega)]
  have : m ||| n < 16 := Nat.or_lt_two_pow (n := 4) (by omega) (by omega)
  omega
theorem suI_range (x : Int) : 0 ≤ suI x ∧ suI x ≤ 15 := by
  unfold suI sdI
  cases isBid x with
  | false => exact ⟨by show (0 : Int) ≤ 0; omega, by show (0 : Int) ≤ 15; omega⟩
  | true =>
    simp only [cond_true]
    cases decide (dnI x = 0) <;> cases decide (dnI x = 1) <;> cases decide (dnI x = 2) <;> cases decide (dnI x = 3) <;> decide
structure RC (s : CD) (xs ac : List Int) : Prop where
  d : 0 ≤ s.d ∧ s.d ≤ 3
  gc : GC s.d xs ac
  h : 0 ≤ s.h ∧ s.h ≤ 38
  p : q4ok (-1) 100 s.p
  a : q4ok 0 38 s.a
  f : q4ok 0 15 s.f
def HO (s : CD) (xs : List Int) : Prop := s.h = 0 ∨ ovI s.d xs = false
theorem RC.gi {s : CD} {xs ac : List Int} (h : RC s xs ac) (hl : xs.length ≤ 1000000) : GI s.d xs := h.gc.gi h.d hl
theorem RC.right {s : CD} {xs ac : List Int} (h : RC s xs ac) (ho : HO s xs) (hl : xs.length ≤ 400) : rgtI s xs ac = true := by
  have hg := h.gc.right [] (fun z hz => by cases hz)
  rw [List.append_nil] at hg
  unfold rgtI
  rw [hg]
  have hh : (headL s xs).any id = false := by
    have z1 : Int.ofNat xs.length = (xs.length : Int) := rfl
    have p0 := h.p 0 (by omega); have p1 := h.p 1 (by omega); have p2 := h.p 2 (by omega); have p3 := h.p 3 (by omega)
    have a0 := h.a 0 (by omega); have a1 := h.a 1 (by omega); have a2 := h.a 2 (by omega); have a3 := h.a 3 (by omega)
    have f0 := h.f 0 (by omega); have f1 := h.f 1 (by omega); have f2 := h.f 2 (by omega); have f3 := h.f 3 (by omega)
    simp only [Q4.at] at p0 p1 p2 p3 a0 a1 a2 a3 f0 f1 f2 f3
    have hd := h.d
    have hh := h.h
    unfold headL seatB
    rw [z1, decide_eq_false (show ¬ 3 < s.d by omega), decide_eq_false (show ¬ (400 : Int) < (xs.length : Int) by omega), decide_eq_false (show ¬ 38 < s.h by omega),
      decide_eq_false (show ¬ s.p.a < -1 by omega), decide_eq_false (show ¬ 100 < s.p.a by omega), decide_eq_false (show ¬ 38 < s.a.a by omega), decide_eq_false (show ¬ 15 < s.f.a by omega),
      decide_eq_false (show ¬ s.p.b < -1 by omega), decide_eq_false (show ¬ 100 < s.p.b by omega), decide_eq_false (show ¬ 38 < s.a.b by omega), decide_eq_false (show ¬ 15 < s.f.b by omega),
      decide_eq_false (show ¬ s.p.c < -1 by omega), decide_eq_false (show ¬ 100 < s.p.c by omega), decide_eq_false (show ¬ 38 < s.a.c by omega), decide_eq_false (show ¬ 15 < s.f.c by omega),
      decide_eq_false (show ¬ s.p.d < -1 by omega), decide_eq_false (show ¬ 100 < s.p.d by omega), decide_eq_false (show ¬ 38 < s.a.d by omega), decide_eq_false (show ¬ 15 < s.f.d by omega)]
    rfl
  rw [hh]
  rcases ho with h0 | h0
  · rw [decide_eq_true h0]; simp
  · rw [h0]; simp
theorem RC.ok {s : CD} {xs ac : List Int} (h : RC s xs ac) (hl : xs.length ≤ 100000) : okL xs = true := by
  refine okL_iff.2 ⟨hl, ?_⟩
  rw [allU_iff]
  intro c hc
  have := (h.gi (by omega)).k c hc
  omega
theorem RC.dk {s : CD} {xs ac : List Int} (h : RC s xs ac) : dkB s = true := decide_eq_true (by have := h.d; omega)
theorem RC.tnn {s : CD} {xs ac : List Int} (h : RC s xs ac) (hl : xs.length ≤ 100000) : (tN s xs : Int) = (s.d + xs.length) % 4 ∧ tN s xs < 4 := by
  obtain ⟨h1, h2⟩ := tN_lt s xs (h.ok hl) (by have := h.d; omega)
  refine ⟨?_, h2⟩
  rw [← h1]
  exact mk_is h.d (by omega)
theorem mate_lt (k : Nat) : mate k < 4 := by unfold mate; omega
theorem RC.setP {s : CD} {xs ac : List Int} (h : RC s xs ac) {v : Int} {k : Nat} (hk : k < 4) (hv : -1 ≤ v ∧ v ≤ 100) : RC (s.setP v k) xs ac := ⟨h.d, h.gc, h.h, h.p.set hk hv, h.a, h.f⟩
theorem RC.setA {s : CD} {xs ac : List Int} (h : RC s xs ac) {v : Int} {k : Nat} (hk : k < 4) (hv : 0 ≤ v ∧ v ≤ 38) : RC (s.setA v k) xs ac := ⟨h.d, h.gc, h.h, h.p, h.a.set hk hv, h.f⟩
theorem RC.setF {s : CD} {xs ac : List Int} (h : RC s xs ac) {v : Int} {k : Nat} (hk : k < 4) (hv : 0 ≤ v ∧ v ≤ 15) : RC (s.setF v k) xs ac := ⟨h.d, h.gc, h.h, h.p, h.a, h.f.set hk hv⟩
theorem RC.setH {s : CD} {xs ac : List Int} (h : RC s xs ac) {v : Int} (hv : 0 ≤ v ∧ v ≤ 38) : RC (s.setH v) xs ac := ⟨h.d, h.gc, hv, h.p, h.a, h.f⟩
theorem RC.sil {s : CD} {xs ac : List Int} (h : RC s xs ac) {k j : Nat} (hk : k < 4) (hj : j < 4) (x : Int) : RC (silI suI s k j x) xs ac := by
  unfold silI
  exact (h.setP hk (by omega)).setF hj (or_15 (h.f j hj) (suI_range x))
theorem RC.dec {s : CD} {xs ac : List Int} (h : RC s xs ac) {k : Nat} (hk : k < 4) (hp : 0 < s.p.at k) : RC (s.setP (wr .i64 (s.p.at k - 1)) k) xs ac := by
  have := h.p k hk
  rw [wr64 (by omega) (by omega)]
  exact h.setP hk (by omega)
theorem RC.met {s : CD} {xs ac : List Int} (h : RC s xs ac) {k : Nat} (hk : k < 4) : RC (metI s k) xs ac := by
  unfold metI
  cases hd : decide (0 < s.p.at k) with
  | true => exact (h.dec hk (of_decide_eq_true hd)).setA hk (by omega)
  | false => exact h.setA hk (by omega)
theorem RC.rai {s : CD} {xs ac : List Int} (h : RC s xs ac) {k : Nat} (hk : k < 4) : RC (raiI s k) xs ac := by
  unfold raiI
  cases decide (s.p.at k = 0) with
  | true => exact h.setP hk (by omega)
  | false => exact h
theorem RC.calls {s : CD} {xs ac ys bc : List Int} (h : RC s xs ac) (hg : GC s.d ys bc) : RC s ys bc := ⟨h.d, hg, h.h, h.p, h.a, h.f⟩
theorem RC.free {s : CD} {xs ac : List Int} (h : RC s xs ac) (hl : xs.length ≤ 1000000) {x : Int} (hx : 0 ≤ x) (hf : frI s.d xs x = true) : RC s (xs ++ [x]) ac := by
  have g := h.gi hl
  obtain ⟨h1, h2⟩ := g.free hf
  refine h.calls (.free h.gc h1 ?_ hf hx)
  cases hb : isBid x with
  | false => unfold lwI; rw [hb]; rfl
  | true =>
    rw [g.bid h1 hb] at hf
    simpa using hf
theorem RC.low {s : CD} {xs ac : List Int} (h : RC s xs ac) {x : Int} (ho : ovI s.d xs = false) (hx : lwI xs x = true) : RC s (xs ++ [x]) (ac ++ [(xs.length : Int)]) := h.calls (.low h.gc ho hx)
theorem lg_fr {s : CD} {xs : List Int} {x : Int} (h : lgI s xs x = true) : frI s.d xs x = true := by
  unfold lgI at h
  simp only [Bool.and_eq_true] at h
  exact h.1
theorem doS_d (k : Nat) (xs : List Int) (s : CD) (x : Int) : (doS k xs s x).d = s.d ∧ (doS k xs s x).h = 0 := by
  unfold doS
  dsimp only
  cases decide (0 < s.p.at k) <;> (simp only [cond_true, cond_false]; constructor <;> (try split) <;> simp only [cond_eq_ite] <;> (repeat' split) <;> rfl)
theorem RC.do15 {s : CD} {xs ac : List Int} (h : RC s xs ac) (hl : xs.length ≤ 100000) {x : Int} (hx : 0 ≤ x) (hg : lgI s xs x = true) : RC (doS (tN s xs) xs s x) (xs ++ [x]) ac := by
  have hk := (h.tnn hl).2
  have h0 := h.free (by omega) hx (lg_fr hg)
  unfold doS
  dsimp only
  generalize tN s xs = k at *
  have h1 : RC (bif decide (0 < s.p.at k) then s.setP (wr .i64 (s.p.at k - 1)) k else s) (xs ++ [x]) ac := by
    cases hd : decide (0 < s.p.at k) with
    | true => exact h0.dec hk (of_decide_eq_true hd)
    | false => exact h0
  generalize (bif decide (0 < s.p.at k) then s.setP (wr .i64 (s.p.at k - 1)) k else s) = s1 at *
  have h2 : RC (bif decide (0 < s.a.at k) && (!psI xs && decide (s1.p.at (mate k) = 0)) then s1.setP 1 (mate k) else s1) (xs ++ [x]) ac := by
    cases (decide (0 < s.a.at k) && (!psI xs && decide (s1.p.at (mate k) = 0))) with
    | true => exact h1.setP (mate_lt k) (by omega)
    | false => exact h1
  generalize (bif decide (0 < s.a.at k) && (!psI xs && decide (s1.p.at (mate k) = 0)) then s1.setP 1 (mate k) else s1) = s2 at *
  have h3 := h2.setA (v := 0) hk (by omega)
  refine RC.setH ?_ (by omega)
  cases (decide (0 < s.h) && !mnI s.h xs x) with
  | true => exact h3.sil (mate_lt k) (mate_lt k) _
  | false => exact h3
end Go.Proofs.YtojlmpcbplepcaaGreat

/- Chapter 10: kinds of calls; what is refused or accepted stays right. -/
namespace Go.Proofs.YtojlmpcbplepcaaGreat
open Go Go.Eng
inductive KD (s : CD) (xs : List Int) (y : Nat) (x : Int) : Int → Prop
  | after : ovI s.d xs = true → KD s xs y x 6
  | right : ovI s.d xs = false → y = (tN s xs + 1) % 4 → KD s xs y x 3
  | partner : ovI s.d xs = false → y = (tN s xs + 2) % 4 → KD s xs y x 4
  | left : ovI s.d xs = false → y = (tN s xs + 3) % 4 → KD s xs y x 5
  | none : ovI s.d xs = false → y = tN s xs → lgI s xs x = true → KD s xs y x 0
  | low : ovI s.d xs = false → y = tN s xs → lgI s xs x = false → lwI xs x = true → KD s xs y x 1
  | double : ovI s.d xs = false → y = tN s xs → lgI s xs x = false → lwI xs x = false → (x = 1 ∨ x = 2) → frI s.d xs x = false → KD s xs y x 2
  | forced : ovI s.d xs = false → y = tN s xs → lgI s xs x = false → lwI xs x = false → ((x = 1 ∨ x = 2) → frI s.d xs x = true) → KD s xs y x 7
theorem kd_of {s : CD} {xs ac : List Int} {y : Nat} {x : Int} (hd : 0 ≤ s.d ∧ s.d < 256) (h : okL xs = true) (hr : rgtI s xs ac = true) (hy : y < 4) (hx : x ≤ 37) : KD s xs y x (kdI s xs ac y x) ∧ keI s xs ac y x = 0 := by
  have he : keI s xs ac y x = 0 := by
    unfold keI
    rw [hr, decide_eq_false (show ¬ (3 : Int) < y by omega), decide_eq_true hx]; rfl
  refine ⟨?_, he⟩
  obtain ⟨ht, hk⟩ := tN_lt s xs h hd
  have e0 : kdI s xs ac y x = bif ovI s.d xs then 6 else bif decide (rlI s xs y = 1) then 3 else bif decide (rlI s xs y = 2) then 4 else bif decide (rlI s xs y = 3) then 5 else kdO s xs x := by
    unfold kdI
    rw [hr, decide_eq_false (show ¬ (3 : Int) < y by omega), decide_eq_true hx]; rfl
  rw [e0]
  have hrr : 0 ≤ rlI s xs y ∧ rlI s xs y < 4 := by
    unfold rlI
    rw [ht, wr_u8_id (n := (y : Int) + 4) (by omega), wr_u8_id (by omega), Int.tmod_eq_emod_of_nonneg (by omega)]
    omega
  cases ho : ovI s.d xs with
  | true => exact .after ho
  | false =>
    rw [cond_false]
    by_cases r1 : rlI s xs y = 1
    · rw [decide_eq_true r1]; exact .right ho (rl_is (k := 1) hd h hy r1)
    by_cases r2 : rlI s xs y = 2
    · rw [decide_eq_false r1, decide_eq_true r2]; exact .partner ho (rl_is (k := 2) hd h hy r2)
    by_cases r3 : rlI s xs y = 3
    · rw [decide_eq_false r1, decide_eq_false r2, decide_eq_true r3]; exact .left ho (rl_is (k := 3) hd h hy r3)
    have yt : y = tN s xs := by have := rl_is (k := 0) hd h hy (by omega); omega
    rw [decide_eq_false r1, decide_eq_false r2, decide_eq_false r3]
    simp only [cond_false]
    unfold kdO
    cases hg : lgI s xs x with
    | true => exact .none ho yt hg
    | false =>
      cases hw : lwI xs x with
      | true => exact .low ho yt hg hw
      | false =>
        cases hc : ((decide (x = 1) || decide (x = 2)) && !frI s.d xs x) with
        | true =>
          simp only [Bool.and_eq_true, Bool.or_eq_true, decide_eq_true_eq, Bool.not_eq_true'] at hc
          exact .double ho yt hg hw hc.1 hc.2
        | false =>
          refine .forced ho yt hg hw fun h12 => ?_
          cases hf : frI s.d xs x with
          | true => rfl
          | false =>
            rw [hf] at hc
            rcases h12 with rfl | rfl <;> cases hc
theorem RC.kd {s : CD} {xs ac : List Int} (h : RC s xs ac) (ho : HO s xs) (hl : xs.length ≤ 400) {y : Nat} {x : Int} (hy : y < 4) (hx : x ≤ 37) : KD s xs y x (kdI s xs ac y x) ∧ keI s xs ac y x = 0 :=
  kd_of (by have := h.d; omega) (h.ok (by omega)) (h.right ho hl) hy hx
theorem RC.ref {s : CD} {xs ac : List Int} (h : RC s xs ac) (ho : HO s xs) {y : Nat} {x k : Int} (hy : y < 4) (hx : 0 ≤ x ∧ x ≤ 37) (hk : KD s xs y x k) : RC (rfS k s y x) xs ac ∧ HO (rfS k s y x) xs := by
  have x1 : wr .u8 (x + 1) = x + 1 := wr_u8_id (by omega)
  have rai : ∀ j, j < 4 → RC (raiI s j) xs ac ∧ HO (raiI s j) xs := fun j hj => ⟨h.rai hj, by unfold raiI; cases decide (s.p.at j = 0) <;> exact ho⟩
  cases hk with
  | after _ => exact ⟨h, ho⟩
  | none _ _ _ => exact ⟨h, ho⟩
  | forced _ _ _ _ _ => exact ⟨h, ho⟩
  | low h1 _ _ _ => exact ⟨by show RC (s.setH (wr .u8 (x + 1))) xs ac; rw [x1]; exact h.setH (by omega), .inr h1⟩
  | double h1 _ _ _ _ _ => exact ⟨by show RC (s.setH (wr .u8 (x + 1))) xs ac; rw [x1]; exact h.setH (by omega), .inr h1⟩
  | right h1 _ =>
    show RC (bif decide (x = 0) then raiI s y else s.setA (wr .u8 (x + 1)) y) xs ac ∧ HO (bif decide (x = 0) then raiI s y else s.setA (wr .u8 (x + 1)) y) xs
    cases decide (x = 0) with
    | true => exact rai y hy
    | false => exact ⟨by show RC (s.setA (wr .u8 (x + 1)) y) xs ac; rw [x1]; exact h.setA hy (by omega), ho⟩
  | partner h1 _ =>
    show RC (bif decide (x = 0) then raiI s y else silI suI s y (mate y) x) xs ac ∧ HO (bif decide (x = 0) then raiI s y else silI suI s y (mate y) x) xs
    cases decide (x = 0) with
    | true => exact rai y hy
    | false => exact ⟨h.sil hy (mate_lt y) x, ho⟩
  | left h1 _ =>
    show RC (bif decide (x = 0) then s else raiI s (mate y)) xs ac ∧ HO (bif decide (x = 0) then s else raiI s (mate y)) xs
    cases decide (x = 0) with
    | true => exact ⟨h, ho⟩
    | false => exact rai _ (mate_lt y)
theorem acP_ok : ∀ (r : Nat) {s : CD} {ys : List Int} {ac : List Int} {j : Nat}, RC s ys ac → j < 4 → ys.length + r ≤ 1000000 → ∀ {s' : CD} {zs : List Int}, acP r s ys j = some (s', zs) → RC s' zs ac ∧ s'.d = s.d ∧ zs = ys ++ List.replicate r 0
  | 0, s, ys, ac, j, h, _, _, s', zs, he => by
    simp only [acP, Option.some.injEq, Prod.mk.injEq] at he
    obtain ⟨rfl, rfl⟩ := he
    exact ⟨h, rfl, by simp⟩
  | r + 1, s, ys, ac, j, h, hj, hl, s', zs, he => by
    unfold acP at he
    cases ho : ovI s.d ys with
    | true => rw [ho] at he; cases he
    | false =>
      rw [ho, cond_false] at he
      have g := h.gi (by omega)
      have h2 := (h.met hj).free (by omega) (x := 0) (by omega) (by rw [metI_d]; exact g.pass ho)
      obtain ⟨q1, q2, q3⟩ := acP_ok r h2 (by omega) (by simp; omega) he
      refine ⟨q1, by rw [q2, metI_d], ?_⟩
      rw [q3, List.append_assoc]
      congr 1
structure AcOk (s : CD) (xs ac : List Int) (x : Int) (R : AR) : Prop where
  rc : RC R.s R.ys R.bc
  h : R.s.h = 0
  d : R.s.d = s.d
  ys : ∃ r, r ≤ 3 ∧ R.ys = xs ++ (List.replicate r 0 ++ [x])
  bc : R.bc = ac ∨ R.bc = ac ++ [(xs.length : Int)]
theorem acY_ok {r : Nat} (hr : r ≤ 3) {s : CD} {xs ac : List Int} (h : RC s xs ac) (hl : xs.length ≤ 400) {t : Nat} (ht : t < 4) {x : Int} (hx : 0 ≤ x) : (acY r s xs ac t x).e = 0 ∧ AcOk s xs ac x (acY r s xs ac t x) ∨ (acY r s xs ac t x).e = 104 ∨ (acY r s xs ac t x).e = 5 ∧ 400 ≤ xs.length + r := by
  unfold acY
  cases hp : acP r s xs t with
  | none => exact .inr (.inl rfl)
  | some p =>
    obtain ⟨s', zs⟩ := p
    dsimp only
    obtain ⟨q1, q2, q3⟩ := acP_ok r h ht (by omega) hp
    have hz : zs.length = xs.length + r := by rw [q3]; simp
    cases hf : frI s'.d zs x with
    | false => exact .inr (.inl rfl)
    | true =>
      simp only [Bool.not_true, cond_false]
      unfold acZ
      by_cases h4 : 400 ≤ zs.length
      · rw [decide_eq_true h4]; exact .inr (.inr ⟨rfl, by omega⟩)
      · rw [decide_eq_false h4]
        refine .inl ⟨rfl, ⟨RC.setH (RC.met (q1.free (by omega) hx hf) (by omega)) (by omega), rfl, ?_, ⟨r, hr, ?_⟩, .inl rfl⟩⟩
        · show (metI s' ((t + r) % 4)).d = s.d
          rw [metI_d, q2]
        · show zs ++ [x] = _
          rw [q3, List.append_assoc]
theorem acZ_ok {s : CD} {xs ac : List Int} (h : RC s xs ac) {t : Nat} (ht : t < 4) {x : Int} (ho : ovI s.d xs = false) (hw : lwI xs x = true) : (acZ x xs (ac ++ [(xs.length : Int)]) s t).e = 0 ∧ AcOk s xs ac x (acZ x xs (ac ++ [(xs.length : Int)]) s t) ∨ (acZ x xs (ac ++ [(xs.length : Int)]) s t).e = 5 ∧ 400 ≤ xs.length := by
  unfold acZ
  by_cases h4 : 400 ≤ xs.length
  · rw [decide_eq_true h4]; exact .inr ⟨rfl, h4⟩
  · rw [decide_eq_false h4]
    refine .inl ⟨rfl, ⟨RC.setH (RC.met (h.low ho hw) ht) (by omega), rfl, ?_, ⟨0, by omega, by simp⟩, .inr rfl⟩⟩
    show (metI s t).d = s.d
    rw [metI_d]
def canB (k : Int) : Bool := decide (k = 1) || (decide (k = 3) || (decide (k = 4) || decide (k = 5)))
theorem RC.acc {s : CD} {xs ac : List Int} (h : RC s xs ac) (hl : xs.length ≤ 400) {y : Nat} {x : Int} (hx : 0 ≤ x) (he : keI s xs ac y x = 0) (hk : KD s xs y x (kdI s xs ac y x)) :
    (acI s xs ac y x).e = 0 ∧ canB (kdI s xs ac y x) = true ∧ AcOk s xs ac x (acI s xs ac y x) ∨ (acI s xs ac y x).e = 6 ∧ kdI s xs ac y x = 0 ∨ (acI s xs ac y x).e = 104 ∧ kdI s xs ac y x ≠ 0 ∧ kdI s xs ac y x ≠ 1 ∨ (acI s xs ac y x).e = 5 ∧ 397 ≤ xs.length ∧ canB (kdI s xs ac y x) = true := by
  have ht := (h.tnn (by omega)).2
  have e0 : acI s xs ac y x = bif decide (kdI s xs ac y x = 0) then badR 6 else
      bif decide (kdI s xs ac y x = 1) then acZ x xs (ac ++ [(xs.length : Int)]) s (tN s xs) else bif decide (kdI s xs ac y x = 3) then acY 1 s xs ac (tN s xs) x else bif decide (kdI s xs ac y x = 4) then acY 2 s xs ac (tN s xs) x else
      bif decide (kdI s xs ac y x = 5) then acY 3 s xs ac (tN s xs) x else badR 104 := by unfold acI; rw [he]; rfl
  rw [e0]
  generalize kdI s xs ac y x = k at *
  have yy : ∀ r, r ≤ 3 → ∀ k', canB k' = true → k' ≠ 0 → k' ≠ 1 → ((acY r s xs ac (tN s xs) x).e = 0 ∧ canB k' = true ∧ AcOk s xs ac x (acY r s xs ac (tN s xs) x) ∨ (acY r s xs ac (tN s xs) x).e = 6 ∧ k' = 0 ∨ (acY r s xs ac (tN s xs) x).e = 104 ∧ k' ≠ 0 ∧ k' ≠ 1 ∨ (acY r s xs ac (tN s xs) x).e = 5 ∧ 397 ≤ xs.length ∧ canB k' = true) := fun r hr k' hc h0 h1 => by
    rcases acY_ok hr h hl ht hx with ⟨q1, q2⟩ | q1 | ⟨q1, q2⟩
    · exact .inl ⟨q1, hc, q2⟩
    · exact .inr (.inr (.inl ⟨q1, h0, h1⟩))
    · exact .inr (.inr (.inr ⟨q1, by omega, hc⟩))
  cases hk with
  | after _ => exact .inr (.inr (.inl ⟨rfl, by omega, by omega⟩))
  | none _ _ _ => exact .inr (.inl ⟨rfl, rfl⟩)
  | forced _ _ _ _ _ => exact .inr (.inr (.inl ⟨rfl, by omega, by omega⟩))
  | double _ _ _ _ _ _ => exact .inr (.inr (.inl ⟨rfl, by omega, by omega⟩))
  | low h1 _ _ h2 =>
    rcases acZ_ok h ht h1 h2 with ⟨q1, q2⟩ | ⟨q1, q2⟩
    · exact .inl ⟨q1, rfl, q2⟩
    · exact .inr (.inr (.inr ⟨q1, by omega, rfl⟩))
  | right _ _ => exact yy 1 (by omega) 3 rfl (by omega) (by omega)
  | partner _ _ => exact yy 2 (by omega) 4 rfl (by omega) (by omega)
  | left _ _ => exact yy 3 (by omega) 5 rfl (by omega) (by omega)
end Go.Proofs.YtojlmpcbplepcaaGreat
