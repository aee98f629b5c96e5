/- Texts merged: Dm2, Dm3. -/
import Derived.Test.YtpalajfcffdhoaaGreatDoorDm
/- Chapter 6, plainly: the completions of a deal by number and back. -/
namespace Go.Deal
def sm : List Nat → Nat
  | [] => 0
  | l :: r => l + sm r
def wy : List Nat → Nat
  | [] => 1
  | l :: r => bc (l + sm r) l * wy r
theorem wy_pos : ∀ l : List Nat, 0 < wy l
  | [] => by decide
  | l :: r => Nat.mul_pos (bc_pos (by omega)) (wy_pos r)
def comp : List Nat → Nat → Nat → List Nat
  | [], _, _ => []
  | l :: r, m, n => pick m 52 l (n / wy r) :: comp r (nd m (pick m 52 l (n / wy r))) (n % wy r)
def cs : List Nat → List Nat
  | [] => []
  | g :: r => cnt g 52 :: cs r
def idx : List Nat → Nat → Nat
  | [], _ => 0
  | g :: r, m => rank m g 52 * wy (cs r) + idx r (nd m g)
def Good : List Nat → Nat → Prop
  | [], _ => True
  | g :: r, m => Sub g m ∧ g < 2 ^ 52 ∧ Good r (nd m g)
theorem comp_ok : ∀ {l : List Nat} {m n : Nat}, cnt m 52 = sm l → n < wy l → Good (comp l m n) m ∧ cs (comp l m n) = l ∧ idx (comp l m n) m = n
  | [], m, n, _, h => ⟨trivial, rfl, by simp only [wy] at h; simp only [comp, idx]; omega⟩
  | l :: r, m, n, hm, h => by
    simp only [sm] at hm
    simp only [wy] at h
    have hq : n / wy r < bc (cnt m 52) l := by rw [hm]; exact Nat.div_lt_of_lt_mul (by rw [Nat.mul_comm]; exact h)
    have h1 := pick_sub m 52 l (n / wy r)
    have h2 := pick_cnt m hq
    have h3 := pick_lt m 52 l (n / wy r)
    have h4 := rank_pick m hq
    have h5 := cnt_nd h1 52
    obtain ⟨a, b, c⟩ := comp_ok (l := r) (m := nd m (pick m 52 l (n / wy r))) (n := n % wy r) (by omega) (Nat.mod_lt _ (wy_pos r))
    refine ⟨⟨h1, h3, a⟩, ?_, ?_⟩
    · simp only [comp, cs]; rw [h2, b]
    · simp only [comp, idx]
      rw [b, c, h4, Nat.mul_comm]; exact Nat.div_add_mod _ _
theorem idx_lt : ∀ {g : List Nat} {m : Nat}, Good g m → cnt m 52 = sm (cs g) → idx g m < wy (cs g)
  | [], m, _, _ => by simp [idx, wy, cs]
  | g :: r, m, ⟨h1, h2, h3⟩, hm => by
    simp only [cs, sm] at hm
    have h5 := cnt_nd h1 52
    have ih := idx_lt h3 (by omega)
    have hr := rank_lt h1 52
    rw [hm] at hr
    simp only [idx, wy, cs]
    calc rank m g 52 * wy (cs r) + idx r (nd m g) < rank m g 52 * wy (cs r) + wy (cs r) := by omega
      _ = (rank m g 52 + 1) * wy (cs r) := by rw [Nat.add_mul, Nat.one_mul]
      _ ≤ bc (cnt g 52 + sm (cs r)) (cnt g 52) * wy (cs r) := Nat.mul_le_mul_right _ hr
def sgn (a b : Nat) : Int := if a < b then -1 else if b < a then 1 else 0
theorem wy_four {a b c d : Nat} (ha : a ≤ 13) (hb : b ≤ 13) (hc : c ≤ 13) (hd : d ≤ 13) : wy [a, b, c, d] ≤ 2 ^ 117 ∧ wy [b, c, d] ≤ 2 ^ 65 ∧ wy [c, d] ≤ 2 ^ 26 ∧ wy [d] = 1 := by
  have e3 : wy [d] = 1 := by simp only [wy, sm]; rw [Nat.add_zero, bc_self]
  have e2 : wy [c, d] ≤ 2 ^ 26 := by
    rw [wy, e3, Nat.mul_one]; exact Nat.le_trans (bc_le _ _) (Nat.pow_le_pow_right (by decide) (by simp only [sm]; omega))
  have e1 : wy [b, c, d] ≤ 2 ^ 65 := by
    rw [wy]; exact Nat.le_trans (Nat.mul_le_mul (Nat.le_trans (bc_le _ _) (Nat.pow_le_pow_right (show 2 > 0 by decide) (show b + sm [c, d] ≤ 39 by simp only [sm]; omega))) e2) (by decide)
  refine ⟨?_, e1, e2, e3⟩
  rw [wy]; exact Nat.le_trans (Nat.mul_le_mul (Nat.le_trans (bc_le _ _) (Nat.pow_le_pow_right (show 2 > 0 by decide) (show a + sm [b, c, d] ≤ 52 by simp only [sm]; omega))) e1) (by decide)
end Go.Deal

/- Chapter 6, plainly: deals, partial and right; what is left; completions. -/
namespace Go.Deal
def AL : Nat := 4503599627370495
theorem al_bit (i : Nat) : AL.testBit i = decide (i < 52) := by
  rw [show AL = 2 ^ 52 - 1 by decide, Nat.testBit_two_pow_sub_one]
theorem al_cnt : cnt AL 52 = 52 := by decide
structure PartD (a b c d : Nat) : Prop where
  la : a < 2 ^ 52
  lb : b < 2 ^ 52
  lc : c < 2 ^ 52
  ld : d < 2 ^ 52
  ca : cnt a 52 ≤ 13
  cb : cnt b 52 ≤ 13
  cc : cnt c 52 ≤ 13
  cd : cnt d 52 ≤ 13
  ab : Dis a b
  ac : Dis a c
  ad : Dis a d
  bc : Dis b c
  bd : Dis b d
  cd' : Dis c d
def un (a b c d : Nat) : Nat := a ||| b ||| c ||| d
def lf (a b c d : Nat) : Nat := nd AL (un a b c d)
def lk (a : Nat) : Nat := 13 - cnt a 52
def lks (a b c d : Nat) : List Nat := [lk a, lk b, lk c, lk d]
theorem un_bit (a b c d i : Nat) : (un a b c d).testBit i = (a.testBit i || b.testBit i || c.testBit i || d.testBit i) := by
  unfold un; rw [Nat.testBit_or, Nat.testBit_or, Nat.testBit_or]
theorem Dis.symm {a b : Nat} (h : Dis a b) : Dis b a := fun i x y => h i y x
theorem Dis.or_l {a b c : Nat} (h : Dis a c) (h' : Dis b c) : Dis (a ||| b) c := fun i x y => by
  rw [Nat.testBit_or] at x
  simp only [Bool.or_eq_true] at x
  rcases x with x | x
  · exact h i x y
  · exact h' i x y
theorem Dis.or_r {a b c : Nat} (h : Dis c a) (h' : Dis c b) : Dis c (a ||| b) := (Dis.or_l h.symm h'.symm).symm
theorem Dis.sub {a b c d : Nat} (h : Dis a b) (h1 : Sub c a) (h2 : Sub d b) : Dis c d := fun i x y => h i (h1 i x) (h2 i y)
theorem Sub.refl (a : Nat) : Sub a a := fun _ h => h
theorem Sub.trans {a b c : Nat} (h : Sub a b) (h' : Sub b c) : Sub a c := fun i x => h' i (h i x)
theorem nd_sub (a b : Nat) : Sub (nd a b) a := fun i h => by rw [nd_bit] at h; simp at h; exact h.1
theorem nd_dis (a b : Nat) : Dis (nd a b) b := fun i h h' => by rw [nd_bit, h'] at h; simp at h
theorem sub_nd {g m h : Nat} (h1 : Sub g m) (h2 : Dis g h) : Sub g (nd m h) := fun i x => by
  rw [nd_bit, h1 i x]
  cases hh : h.testBit i with
  | true => exact (h2 i x hh).elim
  | false => rfl
theorem sub_lt {a b n : Nat} (h : Sub a b) (hb : b < 2 ^ n) : a < 2 ^ n := lt_bit fun i hi => by
  cases ha : a.testBit i with
  | false => rfl
  | true => have := h i ha; rw [bit_lt hb hi] at this; cases this
theorem or_lt {a b n : Nat} (ha : a < 2 ^ n) (hb : b < 2 ^ n) : a ||| b < 2 ^ n := Nat.or_lt_two_pow ha hb
theorem or_nd {a b : Nat} (h : Sub a b) : a ||| nd b a = b := Nat.eq_of_testBit_eq fun i => by
  rw [Nat.testBit_or, nd_bit]
  cases ha : a.testBit i with
  | true => rw [h i ha]; rfl
  | false => simp
theorem sub_or (a b : Nat) : Sub a (a ||| b) := fun i h => by rw [Nat.testBit_or, h]; rfl
namespace PartD
variable {a b c d : Nat}
theorem un_cnt (h : PartD a b c d) : cnt (un a b c d) 52 = cnt a 52 + cnt b 52 + cnt c 52 + cnt d 52 := by
  unfold un
  rw [cnt_or ((h.ad.or_l h.bd).or_l h.cd'), cnt_or (h.ac.or_l h.bc), cnt_or h.ab]
theorem un_sub (h : PartD a b c d) : Sub (un a b c d) AL := fun i x => by
  rw [al_bit]
  rcases Nat.lt_or_ge i 52 with hi | hi
  · exact decide_eq_true hi
  · rw [un_bit, bit_lt h.la hi, bit_lt h.lb hi, bit_lt h.lc hi, bit_lt h.ld hi] at x; cases x
theorem lf_cnt (h : PartD a b c d) : cnt (lf a b c d) 52 = sm (lks a b c d) := by
  have h1 := cnt_nd h.un_sub 52
  rw [h.un_cnt, al_cnt] at h1
  have := h.ca; have := h.cb; have := h.cc; have := h.cd
  unfold lf lks lk
  simp only [sm]
  omega
theorem lf_lt (_ : PartD a b c d) : lf a b c d < 2 ^ 52 := sub_lt (nd_sub _ _) (by decide)
theorem lf_dis (_ : PartD a b c d) {g : Nat} (hg : Sub g (lf a b c d)) : Dis a g ∧ Dis b g ∧ Dis c g ∧ Dis d g := by
  have h1 := nd_dis AL (un a b c d)
  refine ⟨fun i x y => h1 i (hg i y) ?_, fun i x y => h1 i (hg i y) ?_, fun i x y => h1 i (hg i y) ?_, fun i x y => h1 i (hg i y) ?_⟩ <;> rw [un_bit, x] <;> simp
end PartD
structure RightD (a b c d : Nat) : Prop extends PartD a b c d where
  ea : cnt a 52 = 13
  eb : cnt b 52 = 13
  ec : cnt c 52 = 13
  ed : cnt d 52 = 13
theorem RightD.all {a b c d : Nat} (h : RightD a b c d) : un a b c d = AL := by
  have h1 := sub_cnt_eq h.un_sub (n := 52) (by rw [h.un_cnt, h.ea, h.eb, h.ec, h.ed, al_cnt])
  exact eq_bits (n := 52) (sub_lt h.un_sub (by decide)) (by decide) h1
theorem PartD.right {a b c d : Nat} (h : PartD a b c d) (hu : un a b c d = AL) : RightD a b c d := by
  have h1 := h.un_cnt
  rw [hu, al_cnt] at h1
  have := h.ca; have := h.cb; have := h.cc; have := h.cd
  exact ⟨h, by omega, by omega, by omega, by omega⟩
theorem PartD.sub {a b c d a' b' c' d' : Nat} (h : PartD a b c d) (ha : Sub a' a) (hb : Sub b' b) (hc : Sub c' c) (hd : Sub d' d) : PartD a' b' c' d' :=
  ⟨sub_lt ha h.la, sub_lt hb h.lb, sub_lt hc h.lc, sub_lt hd h.ld, Nat.le_trans (cnt_sub ha 52) h.ca, Nat.le_trans (cnt_sub hb 52) h.cb, Nat.le_trans (cnt_sub hc 52) h.cc, Nat.le_trans (cnt_sub hd 52) h.cd,
    h.ab.sub ha hb, h.ac.sub ha hc, h.ad.sub ha hd, h.bc.sub hb hc, h.bd.sub hb hd, h.cd'.sub hc hd⟩
theorem PartD.comp {a b c d g0 g1 g2 g3 : Nat} (h : PartD a b c d) (hg : Good [g0, g1, g2, g3] (lf a b c d)) (hc : cs [g0, g1, g2, g3] = lks a b c d) : RightD (a ||| g0) (b ||| g1) (c ||| g2) (d ||| g3) := by
  obtain ⟨s0, l0, s1, l1, s2, l2, s3, l3, _⟩ := hg
  simp only [cs, lks, List.cons.injEq, and_true] at hc
  obtain ⟨c0, c1, c2, c3⟩ := hc
  have t1 : Sub g1 (lf a b c d) := s1.trans (nd_sub _ _)
  have t2 : Sub g2 (nd (lf a b c d) g0) := s2.trans (nd_sub _ _)
  have t2' : Sub g2 (lf a b c d) := t2.trans (nd_sub _ _)
  have t3 : Sub g3 (nd (nd (lf a b c d) g0) g1) := s3.trans (nd_sub _ _)
  have t3' : Sub g3 (nd (lf a b c d) g0) := t3.trans (nd_sub _ _)
  have t3'' : Sub g3 (lf a b c d) := t3'.trans (nd_sub _ _)
  obtain ⟨a0, b0, e0, d0⟩ := h.lf_dis s0
  obtain ⟨a1, b1, e1, d1⟩ := h.lf_dis t1
  obtain ⟨a2, b2, e2, d2⟩ := h.lf_dis t2'
  obtain ⟨a3, b3, e3, d3⟩ := h.lf_dis t3''
  have g01 : Dis g0 g1 := ((nd_dis _ _).sub s1 (Sub.refl _)).symm
  have g02 : Dis g0 g2 := ((nd_dis _ _).sub t2 (Sub.refl _)).symm
  have g03 : Dis g0 g3 := ((nd_dis _ _).sub t3' (Sub.refl _)).symm
  have g12 : Dis g1 g2 := ((nd_dis _ _).sub s2 (Sub.refl _)).symm
  have g13 : Dis g1 g3 := ((nd_dis _ _).sub t3 (Sub.refl _)).symm
  have g23 : Dis g2 g3 := ((nd_dis _ _).sub s3 (Sub.refl _)).symm
  have k0 := cnt_or a0 52; have k1 := cnt_or b1 52; have k2 := cnt_or e2 52; have k3 := cnt_or d3 52
  have := h.ca; have := h.cb; have := h.cc; have := h.cd
  unfold lk at c0 c1 c2 c3
  have q0 : cnt (a ||| g0) 52 = 13 := by omega
  have q1 : cnt (b ||| g1) 52 = 13 := by omega
  have q2 : cnt (c ||| g2) 52 = 13 := by omega
  have q3 : cnt (d ||| g3) 52 = 13 := by omega
  exact ⟨⟨or_lt h.la l0, or_lt h.lb l1, or_lt h.lc l2, or_lt h.ld l3, by omega, by omega, by omega, by omega,
    (h.ab.or_r a1).or_l (b0.symm.or_r g01), (h.ac.or_r a2).or_l (e0.symm.or_r g02), (h.ad.or_r a3).or_l (d0.symm.or_r g03),
    (h.bc.or_r b2).or_l (e1.symm.or_r g12), (h.bd.or_r b3).or_l (d1.symm.or_r g13), (h.cd'.or_r e3).or_l (d2.symm.or_r g23)⟩, q0, q1, q2, q3⟩
theorem RightD.good {a b c d x y z w : Nat} (r : RightD x y z w) (ha : Sub a x) (hb : Sub b y) (hc : Sub c z) (hd : Sub d w) :
    Good [nd x a, nd y b, nd z c, nd w d] (lf a b c d) ∧ cs [nd x a, nd y b, nd z c, nd w d] = lks a b c d := by
  have k0 := cnt_nd ha 52; have k1 := cnt_nd hb 52; have k2 := cnt_nd hc 52; have k3 := cnt_nd hd 52
  have q0 := r.ea; have q1 := r.eb; have q2 := r.ec; have q3 := r.ed
  have inL : ∀ {g : Nat}, g < 2 ^ 52 → Dis g a → Dis g b → Dis g c → Dis g d → Sub g (lf a b c d) := fun {g} hl p1 p2 p3 p4 => by
    refine sub_nd (fun i hi => ?_) (fun i x y => ?_)
    · rw [al_bit]
      rcases Nat.lt_or_ge i 52 with hi' | hi'
      · exact decide_eq_true hi'
      · rw [bit_lt hl hi'] at hi; cases hi
    · rw [un_bit] at y
      simp only [Bool.or_eq_true] at y
      rcases y with ((y | y) | y) | y
      · exact p1 i x y
      · exact p2 i x y
      · exact p3 i x y
      · exact p4 i x y
  have s0 := nd_sub x a; have s1 := nd_sub y b; have s2 := nd_sub z c; have s3 := nd_sub w d
  have l0 := sub_lt s0 r.la; have l1 := sub_lt s1 r.lb; have l2 := sub_lt s2 r.lc; have l3 := sub_lt s3 r.ld
  have i0 := inL l0 (nd_dis _ _) (r.ab.sub s0 hb) (r.ac.sub s0 hc) (r.ad.sub s0 hd)
  have i1 := inL l1 (r.ab.symm.sub s1 ha) (nd_dis _ _) (r.bc.sub s1 hc) (r.bd.sub s1 hd)
  have i2 := inL l2 (r.ac.symm.sub s2 ha) (r.bc.symm.sub s2 hb) (nd_dis _ _) (r.cd'.sub s2 hd)
  have i3 := inL l3 (r.ad.symm.sub s3 ha) (r.bd.symm.sub s3 hb) (r.cd'.symm.sub s3 hc) (nd_dis _ _)
  refine ⟨⟨i0, l0, sub_nd i1 (r.ab.symm.sub s1 s0), l1, sub_nd (sub_nd i2 (r.ac.symm.sub s2 s0)) (r.bc.symm.sub s2 s1), l2, sub_nd (sub_nd (sub_nd i3 (r.ad.symm.sub s3 s0)) (r.bd.symm.sub s3 s1)) (r.cd'.symm.sub s3 s2), l3, trivial⟩, ?_⟩
  simp only [cs, lks, lk, List.cons.injEq, and_true]
  refine ⟨?_, ?_, ?_, ?_⟩ <;> omega
def mk (m : Nat) : List Nat → Nat
  | [] => m
  | c :: l => mk (m ||| 2 ^ c) l
end Go.Deal
