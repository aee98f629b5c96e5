/- Chapter 3: the reference's BelowNat: the loop in which it draws. -/
import Derived.Test.YtnbfnoomhlamnaaGreatFs3
namespace Go.Proofs.YtnbfnoomhlamnaaGreat
open Go Go.Eng
theorem addZ_small {x y : Int} (h : x + y < 340282366920938463463374607431768211456) : N2.addZ x y = x + y := by unfold N2.addZ; rw [decide_eq_true h, cond_true]
theorem mulZ_small {x y : Int} (h : x * y < 340282366920938463463374607431768211456) : N2.mulZ x y = x * y := by unfold N2.mulZ; rw [decide_eq_true h, cond_true]
/-- The sum, from the last value on. -/
def hornN : List Int → Int → Int
  | [], a => a
  | v :: l, a => hornN l (N2.addZ (N2.mulZ a 2147483646) v)
def stN : Nat → Int → Int
  | 0, s => s
  | k + 1, s => stN k (mulP s 48271)
def vlN : Nat → Int → List Int → List Int
  | 0, _, l => l
  | k + 1, s, l => vlN k (mulP s 48271) ((mulP s 48271 - 1) :: l)
theorem rnV_is : ∀ (k : Nat) (s : Int) (l : List Int), rightB s = true → rnV rN k s l = (stN k s, vlN k s l)
  | 0, s, l, _ => rfl
  | k + 1, s, l, hs => by
    have e1 : rN.ns s = mulP s 48271 := nextS_right hs
    have e2 : rN.nv s = mulP s 48271 - 1 := nextV_right hs
    unfold rnV stN vlN
    rw [e1, e2]
    exact rnV_is k _ _ (mulP_range s hs)
theorem drawN_st : ∀ (k : Nat) (s a c : Int), (drawN k s a c).1 = stN k s
  | 0, _, _, _ => rfl
  | k + 1, s, a, c => by unfold drawN stN; exact drawN_st k _ _ _
theorem vlN_in : ∀ (k : Nat) (s : Int) (l : List Int), rightB s = true → (∀ v ∈ l, 0 ≤ v ∧ v < 2147483646) → ∀ v ∈ vlN k s l, 0 ≤ v ∧ v < 2147483646
  | 0, s, l, _, hl => hl
  | k + 1, s, l, hs, hl => by
    have h := right_le (mulP_range s hs)
    refine vlN_in k _ _ (mulP_range s hs) ?_
    intro v hv
    rcases List.mem_cons.1 hv with rfl | hv
    · omega
    · exact hl v hv
theorem horn_draw {s : Int} (hs : rightB s = true) : ∀ k : Nat, 1 ≤ k ∧ k ≤ 4 → hornN (vlN k s []) 0 = (drawN k s 0 1).2
  | 0, h => by omega
  | 1, _ => by
    have h1 := right_le (mulP_range s hs)
    simp only [vlN, hornN, drawN]
    rw [show N2.mulZ 0 2147483646 = 0 from rfl, mulZ_small (x := 1) (by omega), Int.one_mul]
  | 2, _ => by
    have h1 := right_le (mulP_range s hs)
    have h2 := right_le (mulP_range _ (mulP_range s hs))
    simp only [vlN, hornN, drawN]
    generalize mulP (mulP s 48271) 48271 = p2 at *
    generalize mulP s 48271 = p1 at *
    rw [show N2.mulZ 0 2147483646 = 0 from rfl, show N2.mulZ 1 2147483646 = 2147483646 from rfl, mulZ_small (x := 1) (by omega), Int.one_mul, mulZ_small (x := 2147483646) (by omega),
      addZ_small (x := 0) (y := p2 - 1) (by omega), addZ_small (x := 0) (y := p1 - 1) (by omega), mulZ_small (by omega), addZ_small (by omega), addZ_small (by omega)]
    omega
  | 3, _ => by
    have h1 := right_le (mulP_range s hs)
    have h2 := right_le (mulP_range _ (mulP_range s hs))
    have h3 := right_le (mulP_range _ (mulP_range _ (mulP_range s hs)))
    simp only [vlN, hornN, drawN]
    generalize mulP (mulP (mulP s 48271) 48271) 48271 = p3 at *
    generalize mulP (mulP s 48271) 48271 = p2 at *
    generalize mulP s 48271 = p1 at *
    rw [show N2.mulZ 0 2147483646 = 0 from rfl, show N2.mulZ 1 2147483646 = 2147483646 from rfl, show N2.mulZ 2147483646 2147483646 = 4611686009837453316 from rfl, mulZ_small (x := 1) (by omega), Int.one_mul, mulZ_small (x := 2147483646) (by omega), mulZ_small (x := 4611686009837453316) (by omega),
      addZ_small (x := 0) (y := p3 - 1) (by omega), addZ_small (x := 0) (y := p1 - 1) (by omega), mulZ_small (x := 0 + (p3 - 1)) (by omega), addZ_small (x := (0 + (p3 - 1)) * 2147483646) (by omega), mulZ_small (x := (0 + (p3 - 1)) * 2147483646 + (p2 - 1)) (by omega), addZ_small (x := ((0 + (p3 - 1)) * 2147483646 + (p2 - 1)) * 2147483646) (by omega), addZ_small (x := 0 + (p1 - 1)) (by omega), addZ_small (by omega)]
    omega
  | 4, _ => by
    have h1 := right_le (mulP_range s hs)
    have h2 := right_le (mulP_range _ (mulP_range s hs))
    have h3 := right_le (mulP_range _ (mulP_range _ (mulP_range s hs)))
    have h4 := right_le (mulP_range _ (mulP_range _ (mulP_range _ (mulP_range s hs))))
    simp only [vlN, hornN, drawN]
    generalize mulP (mulP (mulP (mulP s 48271) 48271) 48271) 48271 = p4 at *
    generalize mulP (mulP (mulP s 48271) 48271) 48271 = p3 at *
    generalize mulP (mulP s 48271) 48271 = p2 at *
    generalize mulP s 48271 = p1 at *
    rw [show N2.mulZ 0 2147483646 = 0 from rfl, show N2.mulZ 1 2147483646 = 2147483646 from rfl, show N2.mulZ 2147483646 2147483646 = 4611686009837453316 from rfl, show N2.mulZ 4611686009837453316 2147483646 = 9903520286612926114398470136 from rfl, mulZ_small (x := 1) (by omega), Int.one_mul, mulZ_small (x := 2147483646) (by omega), mulZ_small (x := 4611686009837453316) (by omega), mulZ_small (x := 9903520286612926114398470136) (by omega),
      addZ_small (x := 0) (y := p4 - 1) (by omega), addZ_small (x := 0) (y := p1 - 1) (by omega), mulZ_small (x := 0 + (p4 - 1)) (by omega), addZ_small (x := (0 + (p4 - 1)) * 2147483646) (by omega), mulZ_small (x := (0 + (p4 - 1)) * 2147483646 + (p3 - 1)) (by omega), addZ_small (x := ((0 + (p4 - 1)) * 2147483646 + (p3 - 1)) * 2147483646) (by omega),
      mulZ_small (x := ((0 + (p4 - 1)) * 2147483646 + (p3 - 1)) * 2147483646 + (p2 - 1)) (by omega), addZ_small (x := (((0 + (p4 - 1)) * 2147483646 + (p3 - 1)) * 2147483646 + (p2 - 1)) * 2147483646) (by omega),
      addZ_small (x := 0 + (p1 - 1)) (by omega), addZ_small (x := 0 + (p1 - 1) + 2147483646 * (p2 - 1)) (by omega), addZ_small (by omega)]
    omega
  | _ + 5, h => by omega
theorem rnSum_is {R : Type} {K : Int → Int → Int → Int → Option R} : ∀ (l : List Int) (a : Int), (∀ v ∈ l, 0 ≤ v ∧ v < 2147483646) → inZ a →
    rnSum rN 2147483646 0 0 0 l (N2.w0 a) (N2.w1 a) (N2.w2 a) (N2.w3 a) K = K (N2.w0 (hornN l a)) (N2.w1 (hornN l a)) (N2.w2 (hornN l a)) (N2.w3 (hornN l a))
  | [], a, _, _ => rfl
  | v :: l, a, hl, ha => by
    have hv := hl v (by simp)
    have hm : inZ (N2.mulZ a 2147483646) := inZ_mul ha (by unfold inZ; omega)
    have hvi : inZ v := by unfold inZ; omega
    have f1 : rN.fit v = true := by show fitI v = true; unfold fitI; rw [decide_eq_true (by omega), decide_eq_true (by omega)]; rfl
    have f2 : rN.ofz v = v := by show N2.ofZ v = v; unfold N2.ofZ; rw [decide_eq_false (by omega)]; rfl
    have ha1 : nB.inn (N2.w0 a) (N2.w1 a) (N2.w2 a) (N2.w3 a) = true := N2.inN_w a
    have ha2 : nB.z (N2.w0 a) (N2.w1 a) (N2.w2 a) (N2.w3 a) = a := N2.nval_id ha
    unfold rnSum NB.ws
    rw [show rN.B = nB from rfl, f1, ha1, ha2, f2, show nB.inn 2147483646 0 0 0 = true from rfl, show nB.z 2147483646 0 0 0 = 2147483646 from rfl, show nB.mul a 2147483646 = N2.mulZ a 2147483646 from rfl]
    dsimp only
    rw [inZ_w, inZ_w, z_w hm, z_w hvi, Bool.and_self, cond_true, cond_true, cond_true]
    exact rnSum_is l _ (fun u hu => hl u (by simp [hu])) (inZ_add hm hvi)
theorem inZ_div {x y : Int} (hx : inZ x) (hy : inZ y) : inZ (N2.divZ x y) := by
  unfold N2.divZ
  by_cases h : y = 0
  · rw [decide_eq_true h, cond_true]; unfold inZ; omega
  · rw [decide_eq_false h, cond_false]
    unfold inZ at *
    have h1 := Int.ediv_nonneg hx.1 hy.1
    have h2 := Int.ediv_le_self y hx.1
    omega
theorem natQ_in (k : Nat) {z : Int} (hz : inZ z) (m : Int) : ∀ (n : Nat) (s r : Int), rightB s = true → inZ r → rightB (natQ k z m n s r).1 = true ∧ inZ (natQ k z m n s r).2
  | 0, s, r, hs, hr => ⟨hs, hr⟩
  | n + 1, s, r, hs, _ => by
    have h := drawN_in k s 0 1 hs (by unfold inZ; omega) (by unfold inZ; omega)
    have h2 := inZ_rem h.2 hz
    unfold natQ
    cases decide (N2.divZ (drawN k s 0 1).2 z < m) with
    | true => exact ⟨h.1, h2⟩
    | false => exact natQ_in k hz m n _ _ h.1 h2
end Go.Proofs.YtnbfnoomhlamnaaGreat
