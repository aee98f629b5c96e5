/- Texts merged: Z3, Zp. -/
import Derived.Test.YtpalajfcffdhoaaGreatDoorARDiv
import Derived.Test.YtpalajfcffdhoaaGreatDoorDm
/- Chapter 6, the reference: Complete, Index: their names, and one round of their loops. -/
namespace Go.Proofs.YtpalajfcffdhoaaGreatDoor
open Go Go.Eng Go.Deal
structure EC where
  n : N6
  u4 : Int → Int → Int → Int → Bool
  pb : Int → Int → Int → Int → Bool
  rg : Int → Int → Int → Int → Bool
  le : Int → Int → Int → Int → Int
  wy : Int → Int → Int → Int → Int
  ma : Int → Int
  otk : Int → Int → Int → Int → Int → Bool
  ot : Int → Int → Int → Int → Int → Int
  ck : Int → Int → Bool
  ch : Int → Int → Int
  onk : Int → Bool
  on : Int → Int
  hk : Int → Int → Bool
  hs : Int → Int → Bool
  cd : Int → Int → Int → Int → List Int
  iz : Int → Int
  ie : Int → Int
  ofk : Int → Bool
  of : Int → Int
  ofe : Int → Int
section
variable (E : EC)
def cWay : List V → Option (Bool × V)
  | [.agg [.int .u64 a, .int .u64 b, .int .u64 c, .int .u64 d]] => some (E.u4 a b c d, .tuple [E.n.nW (E.wy a b c d), .int .i64 (E.le a b c d)])
  | _ => none
def cPar : List V → Option (Bool × V)
  | [.agg [.int .u64 a, .int .u64 b, .int .u64 c, .int .u64 d]] => some (E.u4 a b c d, .bool (E.pb a b c d))
  | _ => none
def cRig : List V → Option (Bool × V)
  | [.agg [.int .u64 a, .int .u64 b, .int .u64 c, .int .u64 d]] => some (E.u4 a b c d, .bool (E.rg a b c d))
  | _ => none
def cMa : List V → Option (Bool × V)
  | [.int .u64 m] => some (E.n.u m, .int .i64 (E.ma m))
  | _ => none
def cOt : List V → Option (Bool × V)
  | [.agg [.int .u64 a, .int .u64 b, .int .u64 c, .int .u64 d], .int .i64 s] => some (E.otk s a b c d, E.n.nW (E.ot s a b c d))
  | _ => none
def cCh : List V → Option (Bool × V)
  | [.int .i64 n, .int .i64 k] => some (E.ck n k, .int .i64 (E.ch n k))
  | _ => none
def cOn : List V → Option (Bool × V)
  | [.int .i64 k] => some (E.onk k, .int .u64 (E.on k))
  | _ => none
def cIn : List V → Option (Bool × V)
  | [.agg [.int .u32 a, .int .u32 b, .int .u32 c, .int .u32 d]] => some (E.n.inn a b c d, .tuple [.int .i64 (E.iz (E.n.z a b c d)), .int .i64 (E.ie (E.n.z a b c d))])
  | _ => none
def cOf : List V → Option (Bool × V)
  | [.int .i64 n] => some (E.ofk n, .tuple [E.n.nW (E.of n), .int .i64 (E.ofe n)])
  | _ => none
def tabC6 : PTab := addTab 6 (cWay E) (addTab 21 (cPar E) (addTab 19 (cRig E) (addTab 25 (cMa E) (addTab 30 (cOt E) (addTab 32 (cCh E) (addTab 33 (cOn E) (addTab 31 (cIn E) (addTab 52 (cOf E) (addTab 49 (gHas E.hk E.hs)
  (addTab 27 (gTwo E.n fun x y => .int .i64 (E.n.cmp x y)) (addTab 29 (gTwo E.n fun x y => .tuple [E.n.nW (E.n.quo x y), E.n.nW (E.n.rem x y), .int .i64 (E.n.divE y)]) (addTab 69 (gTwo E.n fun x y => .tuple [E.n.nW (E.n.add x y), .int .i64 (E.n.addE x y)])
  (addTab 53 (gTwo E.n fun x y => E.n.nW (E.n.mul x y)) emptyTab)))))))))))))
def gCd : List V → List Blk → Option (Bool × V × List Blk)
  | [.agg [.int .u64 a, .int .u64 b, .int .u64 c, .int .u64 d]], [] => some (E.u4 a b c d, .gs 0, [.grow false 3 1 (.ints .i64 (E.cd a b c d))])
  | _, _ => none
def hTabC6 : HTab := addH 28 (gCd E) emptyH
def domC6 : FuncId → Bool := fun f => Nat.beq f 28
noncomputable abbrev orcC6 : Oracle := inl Tryz.prog ftab (tabC6 E) plainL 100 never domC6 (hOrcP nrN (hTabC6 E)) 20
end
noncomputable def cmLp : Code := loopOf 15 Tryz.f7
def u32s : TR := .vs [.int .u32, .int .u32, .int .u32, .int .u32]
def cmT : Tm := ⟨mkS [(2, .ptr 0 0), (3, .ptr 1 0), (4, .ptr 2 0), (8, .int .i64), (9, .gs 3), (10, .int .i64), (14, .int .i64), (16, .int .i64)] 0 92, [.own 23 u64s, .own 28 u32s, .own 23 u64s, gI], []⟩
def cmX : Tm := ⟨mkS [(2, .ptr 0 0), (3, .ptr 1 0), (4, .ptr 2 0), (8, .int .i64)] 0 92, [.own 23 u64s, .own 28 u32s, .own 23 u64s], []⟩
structure N8 where
  n0 : Int
  n1 : Int
  n2 : Int
  n3 : Int
  r0 : Int
  r1 : Int
  r2 : Int
  r3 : Int
def cmw (a b c d : Int) (z : N8) (r : List PV) : List PV := .i a :: .i b :: .i c :: .i d :: .i z.n0 :: .i z.n1 :: .i z.n2 :: .i z.n3 :: .i z.r0 :: .i z.r1 :: .i z.r2 :: .i z.r3 :: r
def cmv (s k ow i a b c d : Int) (z : N8) (l : List Int) : List PV := .i s :: .i k :: .i ow :: .i i :: cmw a b c d z [.l l]
def cmx (s a b c d : Int) (z : N8) : List PV := .i s :: cmw a b c d z []
abbrev RZ := Option (XE × List PV × List (Code × Code))
def cmF (E : EC) (k ow i : Int) (l : List Int) (T : Int → List PV) (S X : List PV) : RZ :=
  bif decide (0 ≤ i) then bif decide (0 < k) then bif E.ck i k then bif decide (E.ch i k ≤ ow) then bif decide (0 ≤ i ∧ i < Int.ofNat l.length) then (match l[i.toNat]? with
    | some v => bif E.onk v then some (.normal, T v, []) else none
    | none => none) else none else some (.normal, S, []) else none else some (.exit 2, X, []) else some (.exit 2, X, [])
section
variable (E : EC) (rd : Option Nat) (k ow i a b c d : Int) (z : N8) (l : List Int)
noncomputable abbrev cmR (ps : List PV) : RZ := roundT Tryz.prog (orcC6 E) noLoops 100 0 rd 7 cmLp cmT cmX ps
theorem cm_0 : cmR E rd (cmv 0 k ow i a b c d z l) = cmF E k ow i l (fun v => cmv 0 (wr .i64 (k - 1)) (wr .i64 (ow - E.ch i k)) (wr .i64 (i - 1)) (wr .u64 (a + E.on v)) b c d z l) (cmv 0 k ow (wr .i64 (i - 1)) a b c d z l) (cmx 0 a b c d z) := by kernel_rfl
theorem cm_1 : cmR E rd (cmv 1 k ow i a b c d z l) = cmF E k ow i l (fun v => cmv 1 (wr .i64 (k - 1)) (wr .i64 (ow - E.ch i k)) (wr .i64 (i - 1)) a (wr .u64 (b + E.on v)) c d z l) (cmv 1 k ow (wr .i64 (i - 1)) a b c d z l) (cmx 1 a b c d z) := by kernel_rfl
theorem cm_2 : cmR E rd (cmv 2 k ow i a b c d z l) = cmF E k ow i l (fun v => cmv 2 (wr .i64 (k - 1)) (wr .i64 (ow - E.ch i k)) (wr .i64 (i - 1)) a b (wr .u64 (c + E.on v)) d z l) (cmv 2 k ow (wr .i64 (i - 1)) a b c d z l) (cmx 2 a b c d z) := by kernel_rfl
theorem cm_3 : cmR E rd (cmv 3 k ow i a b c d z l) = cmF E k ow i l (fun v => cmv 3 (wr .i64 (k - 1)) (wr .i64 (ow - E.ch i k)) (wr .i64 (i - 1)) a b c (wr .u64 (d + E.on v)) z l) (cmv 3 k ow (wr .i64 (i - 1)) a b c d z l) (cmx 3 a b c d z) := by kernel_rfl
end
noncomputable def ixLp : Code := loopOf 20 Tryz.f36
def ixT : Tm := ⟨mkS [(2, .ptr 0 0), (3, .ptr 1 0), (4, .ptr 2 0), (8, .ptr 3 0), (9, .int .i64), (10, .gs 4), (11, .int .i64), (12, .ptr 5 0), (13, .int .i64), (14, .int .i64)] 0 113, [.own 23 u64s, .own 23 u64s, .own 28 u32s, .own 28 u32s, gI, .own 28 u32s], []⟩
def ixX : Tm := ⟨mkS [(2, .ptr 0 0), (3, .ptr 1 0), (4, .ptr 2 0), (8, .ptr 3 0), (9, .int .i64), (12, .ptr 4 0), (13, .int .i64)] 0 113, [.own 23 u64s, .own 23 u64s, .own 28 u32s, .own 28 u32s, .own 28 u32s], []⟩
structure N12 where
  r0 : Int
  r1 : Int
  r2 : Int
  r3 : Int
  o0 : Int
  o1 : Int
  o2 : Int
  o3 : Int
  a0 : Int
  a1 : Int
  a2 : Int
  a3 : Int
  x : Int
  y : Int
  z : Int
  w : Int
def ixw (a b c d : Int) (q : N12) (r : List PV) : List PV := .i a :: .i b :: .i c :: .i d :: .i q.x :: .i q.y :: .i q.z :: .i q.w :: .i q.r0 :: .i q.r1 :: .i q.r2 :: .i q.r3 :: .i q.o0 :: .i q.o1 :: .i q.o2 :: .i q.o3 :: r
def ixv (s k ow i a b c d : Int) (q : N12) (l : List Int) : List PV := .i s :: .i k :: .i ow :: .i i :: ixw a b c d q [.l l, .i q.a0, .i q.a1, .i q.a2, .i q.a3]
def ixx (s ow a b c d : Int) (q : N12) : List PV := .i s :: .i ow :: ixw a b c d q [.i q.a0, .i q.a1, .i q.a2, .i q.a3]
noncomputable abbrev ixR (E : EC) (rd : Option Nat) (ps : List PV) : RZ := roundT Tryz.prog (orcC6 E) noLoops 100 0 rd 36 ixLp ixT ixX ps
end Go.Proofs.YtpalajfcffdhoaaGreatDoor

/- Chapter 6, plainly: the choice with a number, from a list of cards; the number of a choice. -/
namespace Go.Deal
def dls (m : Nat) : Nat → List Nat
  | 0 => []
  | n + 1 => if m.testBit n then n :: dls m n else dls m n
theorem dls_len (m : Nat) : ∀ n, (dls m n).length = cnt m n
  | 0 => rfl
  | n + 1 => by
    have := dls_len m n
    simp only [dls, cnt]
    split
    · rw [List.length_cons, this]
    · exact this
theorem dls_lt (m : Nat) : ∀ n, ∀ p ∈ dls m n, p < n ∧ m.testBit p = true
  | 0, p, h => by cases h
  | n + 1, p, h => by
    simp only [dls] at h
    split at h
    · rename_i hb
      rcases List.mem_cons.1 h with rfl | h
      · exact ⟨by omega, hb⟩
      · have := dls_lt m n p h; exact ⟨by omega, this.2⟩
    · have := dls_lt m n p h; exact ⟨by omega, this.2⟩
def pkR : List Nat → Nat → Nat → Nat
  | [], _, _ => 0
  | p :: r, k, i => if k = 0 then 0 else if i < bc r.length k then pkR r k i else 2 ^ p + pkR r (k - 1) (i - bc r.length k)
theorem pkR_pick (m : Nat) : ∀ n k i, pkR (dls m n) k i = pick m n k i
  | 0, _, _ => rfl
  | n + 1, k, i => by
    simp only [dls, pick]
    split
    · rw [pkR, dls_len, pkR_pick m n k i, pkR_pick m n (k - 1)]
    · exact pkR_pick m n k i
def rkR (g : Nat) : List Nat → Nat → Nat
  | [], _ => 0
  | p :: r, k => if k = 0 then 0 else if g.testBit p then bc r.length k + rkR g r (k - 1) else rkR g r k
def gpR (g : Nat) : List Nat → Nat → Nat
  | [], _ => 0
  | p :: r, k => if k = 0 then 0 else if g.testBit p then 2 ^ p + gpR g r (k - 1) else gpR g r k
theorem cnt_t {g n : Nat} (h : g.testBit n = true) : cnt g (n + 1) = cnt g n + 1 := by simp only [cnt]; rw [if_pos h]
theorem cnt_f {g n : Nat} (h : ¬ g.testBit n = true) : cnt g (n + 1) = cnt g n := by simp only [cnt]; rw [if_neg h]
theorem rank_z {m g : Nat} : ∀ n, cnt g n = 0 → rank m g n = 0
  | 0, _ => rfl
  | n + 1, h => by
    simp only [cnt] at h
    simp only [rank]
    by_cases hg : g.testBit n = true
    · rw [if_pos hg] at h; omega
    · rw [if_neg hg] at h
      rw [Bool.eq_false_iff.2 hg, Bool.and_false]
      simp only [Bool.false_eq_true, if_false]
      exact rank_z n h
theorem rkR_rank {m g : Nat} (hs : Sub g m) : ∀ n, rkR g (dls m n) (cnt g n) = rank m g n
  | 0 => rfl
  | n + 1 => by
    have ih := rkR_rank hs n
    simp only [dls, rank]
    by_cases hm : m.testBit n = true
    · rw [if_pos hm, hm, Bool.true_and, rkR]
      by_cases hg : g.testBit n = true
      · rw [if_pos hg, if_pos hg, dls_len]
        rw [cnt_t hg, if_neg (by omega), Nat.add_sub_cancel, ih]
      · rw [if_neg hg, if_neg hg]
        rw [cnt_f hg]
        split
        · rename_i h0; exact (rank_z n h0).symm
        · exact ih
    · rw [if_neg hm, Bool.eq_false_iff.2 hm, Bool.false_and]
      rw [cnt_f (fun h => hm (hs n h))]
      simp only [Bool.false_eq_true, if_false]
      exact ih
theorem gpR_z (g : Nat) : ∀ l : List Nat, gpR g l 0 = 0
  | [] => rfl
  | p :: r => by rw [gpR]; rfl
theorem gpR_all {m g : Nat} (hs : Sub g m) : ∀ n, gpR g (dls m n) (cnt g n) = g % 2 ^ n
  | 0 => by rw [dls, gpR, Nat.pow_zero, Nat.mod_one]
  | n + 1 => by
    have ih := gpR_all hs n
    have hp : g % 2 ^ (n + 1) = g % 2 ^ n + (if g.testBit n then 2 ^ n else 0) := by
      rw [Nat.pow_succ, Nat.mod_mul]
      have h := Nat.testBit_eq_decide_div_mod_eq (x := g) (i := n)
      by_cases q : g.testBit n = true
      · rw [if_pos q]; rw [q] at h; have := of_decide_eq_true h.symm; rw [this, Nat.mul_one]
      · rw [if_neg q]
        rw [Bool.eq_false_iff.2 q] at h
        have := of_decide_eq_false h.symm
        rw [show g / 2 ^ n % 2 = 0 by omega, Nat.mul_zero]
    rw [hp]
    simp only [dls]
    by_cases hm : m.testBit n = true
    · rw [if_pos hm, gpR]
      by_cases hg : g.testBit n = true
      · rw [if_pos hg, if_pos hg]
        rw [cnt_t hg, if_neg (by omega), Nat.add_sub_cancel, ih, Nat.add_comm]
      · rw [if_neg hg, if_neg hg]
        rw [cnt_f hg, Nat.add_zero]
        split
        · rename_i h0
          rw [← ih, h0, gpR_z]
        · exact ih
    · rw [if_neg hm]
      have hg : ¬ g.testBit n = true := fun h => hm (hs n h)
      rw [cnt_f hg, if_neg hg, Nat.add_zero]
      exact ih
theorem mod_s (g n : Nat) : g % 2 ^ (n + 1) = g % 2 ^ n + (if g.testBit n then 2 ^ n else 0) := by
  rw [Nat.pow_succ, Nat.mod_mul]
  have h := Nat.testBit_eq_decide_div_mod_eq (x := g) (i := n)
  by_cases q : g.testBit n = true
  · rw [if_pos q]; rw [q] at h; have := of_decide_eq_true h.symm; rw [this, Nat.mul_one]
  · rw [if_neg q]
    rw [Bool.eq_false_iff.2 q] at h
    have := of_decide_eq_false h.symm
    rw [show g / 2 ^ n % 2 = 0 by omega, Nat.mul_zero]
theorem or_mod {a b : Nat} (h : Dis a b) : ∀ n, (a ||| b) % 2 ^ n = a % 2 ^ n + b % 2 ^ n
  | 0 => by simp [Nat.mod_one]
  | n + 1 => by
    rw [mod_s, mod_s, mod_s, or_mod h n, Nat.testBit_or]
    have := h n
    cases ha : a.testBit n <;> cases hb : b.testBit n <;> simp [ha, hb] at this ⊢ <;> omega
theorem or_add {a b : Nat} (h : Dis a b) : a ||| b = a + b := by
  have := or_mod h (a + b + (a ||| b))
  have p : ∀ x : Nat, x < 2 ^ x := fun x => Nat.lt_two_pow_self
  have p1 := p (a + b + (a ||| b))
  rwa [Nat.mod_eq_of_lt (by omega), Nat.mod_eq_of_lt (by omega), Nat.mod_eq_of_lt (by omega)] at this
end Go.Deal
