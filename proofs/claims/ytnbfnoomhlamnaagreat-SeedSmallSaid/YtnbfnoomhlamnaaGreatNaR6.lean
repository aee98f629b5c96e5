/- Texts merged: NaR6, NaR7. -/
import Derived.Test.YtnbfnoomhlamnaaGreatNaR5
/- Chapter 2, the reference: sub's contract; mul: rounds and loops. -/
namespace Go.Proofs.YtnbfnoomhlamnaaGreat.N2
open Go Go.Eng
def domT : FuncId → Bool := fun f => Nat.beq f 85
noncomputable abbrev orcS (LL : FuncId → Loops) : Oracle := inl Tryz.prog ftab tabA LL 200 never domT (resOrc rTab) 20
theorem orcS_ok {LL : FuncId → Loops} (hL : ∀ f, loopsOk Tryz.prog (LL f)) : OracleOk Tryz.prog (orcS LL) := inl_ok (resOrc_ok rTab_ok) ftab_ok tabA_ok hL mixed 20
def sbF (xs ys : List Int) : List Int := sbW xs.length (val xs).toNat (val ys).toNat 0
def diffD (xs ys : List Int) : List Int := D (val xs - val ys).toNat
def sbC (xs ys : List Int) : Bool := okD xs && (okD ys && decide (val ys ≤ val xs))
def sbTree (n1 n2 : Bool) : List PV → Fin
  | [.i c, .i i, .l xs, .l ys, .l zs] => .br (decide (c = 0 ∧ i = 0 ∧ zs.length = 0) && sbC xs ys) (.leaf (.exit 0) ((sbX n1 n2).at [.l xs, .l ys, .l (sbF xs ys)])) .no
  | _ => .no
noncomputable def sbL (n1 n2 : Bool) : Loops := sums (fun n => match n with | 4 => some (lsumF 2 (sbT n1 n2) sbLp (sbTree n1 n2)) | _ => none)
theorem sbL_ok (n1 n2 : Bool) : loopsOk Tryz.prog (sbL n1 n2) := by
  intro n g hg
  simp only [sbL, sums] at hg
  split at hg
  · cases hg
    refine lsumF_ok (by cases n1 <;> cases n2 <;> kernel_rfl) (fun rd ps e1 st1 hq => ?_)
    unfold sbTree at hq
    split at hq
    · rename_i c i xs ys zs
      simp only [Fin.pick] at hq
      cases hc : (decide (c = 0 ∧ i = 0 ∧ zs.length = 0) && sbC xs ys) with
      | false => rw [hc] at hq; cases hq
      | true =>
        rw [hc, cond_true] at hq
        cases hq
        simp only [sbC, Bool.and_eq_true, decide_eq_true_eq] at hc
        obtain ⟨⟨rfl, rfl, hz⟩, hx, hy, _⟩ := hc
        have hz := List.eq_nil_of_length_eq_zero hz
        subst hz
        obtain ⟨m, rfl, hm⟩ := okD_eq hx
        obtain ⟨n, rfl, hn⟩ := okD_eq hy
        have := sb_loop n1 n2 rd (D m) (D n) ⟨0, 0, m, n, []⟩ ⟨by dsimp only; omega, rfl, rfl, by dsimp only [List.length_nil]; omega, rfl⟩
        dsimp only [Nat.add_zero, List.nil_append] at this
        unfold sbF
        rw [val_D, val_D]
        exact this
    · cases hq
  · cases hg
theorem sub_eval69 (n1 n2 : Bool) (xs ys : List Int) : evalFn Tryz.prog (orcS plainL) (sbL n1 n2) 200 88 Tryz.f88 [.gs 0, .gs 1] [.rs n1 1 (.ints .i64 xs), .rs n2 1 (.ints .i64 ys)] keepB =
    cond (codesB [(sbLp, sbLp)]) (bif decide ((0 : Int) = 0 ∧ (0 : Int) = 0 ∧ 0 = 0) && sbC xs ys then bif decide ((sbF xs ys).length ≤ 9223372036854775807) then
      some (.gs 3, [.rs n1 1 (.ints .i64 xs), .rs n2 1 (.ints .i64 ys), .dead, .grow false 3 1 (.ints .i64 (List.take (tz (sbF xs ys)).length (sbF xs ys)))]) else none else none) none := by cases n1 <;> cases n2 <;> kernel_rfl
theorem two_ro {n1 n2 : Bool} {xs ys : List Int} : ∀ (b : Nat) blk, ([.rs n1 1 (.ints .i64 xs), .rs n2 1 (.ints .i64 ys)] : List Blk)[b]? = some blk → blk.mine = false := by
  intro b blk hb
  match b, hb with
  | 0, hb => cases hb; rfl
  | 1, hb => cases hb; rfl
  | _ + 2, hb => simp at hb
theorem sub69_fn (n1 n2 : Bool) {xs ys : List Int} (h : sbC xs ys = true) : FnOK Tryz.prog 88 [.gs 0, .gs 1] [.rs n1 1 (.ints .i64 xs), .rs n2 1 (.ints .i64 ys)] (.gs 2) ([.rs n1 1 (.ints .i64 xs), .rs n2 1 (.ints .i64 ys)] ++ [.grow false 3 1 (.ints .i64 (diffD xs ys))]) := by
  have he := sub_eval69 n1 n2 xs ys
  have h2 := h
  simp only [sbC, Bool.and_eq_true, decide_eq_true_eq] at h2
  obtain ⟨hx, hy, hle⟩ := h2
  obtain ⟨m, rfl, hm⟩ := okD_eq hx
  obtain ⟨n, rfl, hn⟩ := okD_eq hy
  have hlen : (sbF (D m) (D n)).length = (D m).length := sbW_len _ _ _ _
  rw [val_D, val_D] at hle
  have hz : List.take (tz (sbF (D m) (D n))).length (sbF (D m) (D n)) = diffD (D m) (D n) := by
    rw [← tz_prefix]
    unfold sbF diffD
    rw [tz_val (sbW_dig _ _ _ 0 (by omega))]
    rw [val_D, val_D, sbW_val _ _ _ _ (by omega) (by omega) (by have := D_lt_pow m; exact this), show ((((m : Int)).toNat - ((n : Int)).toNat - 0 : Nat) : Int) = (m : Int) - (n : Int) by omega]
  rw [codesS, h, decide_eq_true (show (0 : Int) = 0 ∧ (0 : Int) = 0 ∧ 0 = 0 from ⟨rfl, rfl, rfl⟩), Bool.and_self, cond_true, cond_true, decide_eq_true (by omega), cond_true, hz] at he
  obtain ⟨v1, h1, hk, hok⟩ := evalFn_ok (orcS_ok plainL_ok) mixed Tryz.func88 (sbL_ok n1 n2) he
  simp only [keepB, Option.some.injEq, Prod.mk.injEq] at hk
  obtain ⟨rfl, rfl⟩ := hk
  exact FnOK.last (h := [.rs n1 1 (.ints .i64 (D m)), .rs n2 1 (.ints .i64 (D n))]) (nb := [.dead]) (nn := false) (ty := 3) (sz := 1) (row := .ints .i64 (diffD (D m) (D n))) hok rfl two_ro
/-! ### mul -/
def mrow (x : Int) : List Int → Nat → List Int → List Int
  | [], _, zs => zs
  | y :: r, p, zs => mrow x r (p + 1) (zs.set p (zs.getD p 0 + x * y))
def mall (ys : List Int) : List Int → Nat → List Int → List Int
  | [], _, zs => zs
  | x :: r, i, zs => mall ys r (i + 1) (mrow x ys i zs)
theorem mrow_len (x : Int) : ∀ (r : List Int) (p : Nat) (zs : List Int), (mrow x r p zs).length = zs.length
  | [], _, _ => rfl
  | y :: r, p, zs => by rw [mrow, mrow_len x r]; simp
theorem mall_len (ys : List Int) : ∀ (r : List Int) (p : Nat) (zs : List Int), (mall ys r p zs).length = zs.length
  | [], _, _ => rfl
  | x :: r, p, zs => by rw [mall, mall_len ys r, mrow_len]
theorem val_set : ∀ {zs : List Int} {p : Nat} (d : Int), p < zs.length → val (zs.set p (zs.getD p 0 + d)) = val zs + 10 ^ p * d
  | [], p, d, h => by simp at h
  | z :: r, 0, d, _ => by simp [val]; omega
  | z :: r, p + 1, d, h => by
    simp only [List.set_cons_succ, List.getD_cons_succ, val]
    rw [val_set d (by simpa using h), Int.pow_succ, Int.mul_add, ← Int.mul_assoc, Int.mul_comm 10 (10 ^ p), Int.add_assoc]
theorem mrow_val (x : Int) : ∀ {r : List Int} {p : Nat} {zs : List Int}, p + r.length ≤ zs.length → val (mrow x r p zs) = val zs + 10 ^ p * (x * val r)
  | [], p, zs, _ => by simp [mrow, val]
  | y :: r, p, zs, h => by
    rw [List.length_cons] at h
    rw [mrow, mrow_val x (by rw [List.length_set]; omega), val_set _ (by omega)]
    simp only [val]
    rw [Int.mul_add x, Int.mul_add (10 ^ p), Int.pow_succ, Int.add_assoc]
    congr 2
    rw [Int.mul_assoc, ← Int.mul_assoc x 10, Int.mul_comm x 10, Int.mul_assoc]
theorem mall_val (ys : List Int) : ∀ {r : List Int} {i : Nat} {zs : List Int}, i + r.length + ys.length ≤ zs.length → val (mall ys r i zs) = val zs + 10 ^ i * (val r * val ys)
  | [], i, zs, _ => by simp [mall, val]
  | x :: r, i, zs, h => by
    rw [List.length_cons] at h
    rw [mall, mall_val ys (by rw [mrow_len]; omega), mrow_val x (by omega)]
    simp only [val]
    rw [Int.add_mul, Int.mul_add (10 ^ i), Int.pow_succ, Int.add_assoc]
    congr 2
    rw [Int.mul_assoc, Int.mul_assoc 10]
/-- Whole numbers from 0 to a bound. -/
def bnd (b : Nat) (l : List Int) : Prop := ∀ z ∈ l, 0 ≤ z ∧ z ≤ (b : Int)
theorem bnd_mono {b c : Nat} {l : List Int} (h : bnd b l) (hb : b ≤ c) : bnd c l := fun z hz => ⟨(h z hz).1, by have := (h z hz).2; omega⟩
theorem bnd_get {b : Nat} {l : List Int} (h : bnd b l) (p : Nat) : 0 ≤ l.getD p 0 ∧ l.getD p 0 ≤ (b : Int) := by
  rw [List.getD_eq_getElem?_getD]
  cases hp : l[p]? with
  | none => simp
  | some z => exact h z (List.mem_of_getElem? hp)
theorem bnd_set {b : Nat} {l : List Int} (h : bnd b l) {p : Nat} {d : Int} (hd : 0 ≤ d ∧ d ≤ 81) : bnd (b + 81) (l.set p (l.getD p 0 + d)) := fun z hz => by
  rcases List.mem_or_eq_of_mem_set hz with hz | rfl
  · have := h z hz; omega
  · have := bnd_get h p; omega
theorem mrow_bnd {x : Int} (hx : 0 ≤ x ∧ x < 10) : ∀ {r : List Int} {p b : Nat} {zs : List Int}, dig r = true → bnd b zs → bnd (b + 81 * r.length) (mrow x r p zs)
  | [], p, b, zs, _, h => by simpa [mrow] using h
  | y :: r, p, b, zs, hd, h => by
    rw [dig_cons] at hd
    have hp : 0 ≤ x * y ∧ x * y ≤ 81 := by
      refine ⟨Int.mul_nonneg hx.1 hd.1.1, ?_⟩
      have := Int.mul_le_mul (show x ≤ 9 by omega) (show y ≤ 9 by omega) hd.1.1 (by decide)
      omega
    rw [mrow, List.length_cons]
    exact bnd_mono (mrow_bnd hx hd.2 (bnd_set h hp)) (by omega)
theorem getD_some {l : List Int} {p : Nat} (h : p < l.length) : l[p]? = some (l.getD p 0) := by rw [List.getD_eq_getElem?_getD, List.getElem?_eq_getElem h]; rfl
theorem drop_cons {l : List Int} {p : Nat} (h : p < l.length) : l.drop p = l.getD p 0 :: l.drop (p + 1) := by
  rw [List.drop_eq_getElem_cons h, List.getD_eq_getElem?_getD, List.getElem?_eq_getElem h]; rfl
theorem dig_get {l : List Int} (h : dig l = true) (p : Nat) : 0 ≤ l.getD p 0 ∧ l.getD p 0 < 10 := by
  rw [List.getD_eq_getElem?_getD]
  cases hp : l[p]? with
  | none => simp
  | some z => exact dig_mem h (List.mem_of_getElem? hp)
theorem dig_drop {l : List Int} (h : dig l = true) (p : Nat) : dig (l.drop p) = true := by
  have := h
  rw [← List.take_append_drop p l, dig_append] at this
  exact this.2
/-- What holds of the cells while a row is reckoned. -/
def mInv (b : Nat) (xs ys zs : List Int) : Prop := dig xs = true ∧ dig ys = true ∧ xs.length ≤ 1000000 ∧ ys.length ≤ 1000000 ∧ zs.length = xs.length + ys.length ∧ bnd b zs ∧ b ≤ 1000000000000000
theorem ml_loop2 (n1 n2 : Bool) (rd : Option Nat) (xs ys : List Int) (c : Nat) (hc : c < xs.length) : ∀ x : Nat × Nat × List Int, (mInv x.2.1 xs ys x.2.2 ∧ x.1 ≤ ys.length ∧ x.2.1 + 81 * (ys.length - x.1) ≤ 1000000000000000) →
    SimC Tryz.prog 2 rd (.loop mlLp2) ((mlT2 n1 n2).at [.i (c : Int), .i (x.1 : Int), .l xs, .l ys, .l x.2.2]) (.exit 2) ((mlT1 n1 n2).at [.i (c : Int), .l xs, .l ys, .l (mrow (xs.getD c 0) (ys.drop x.1) (c + x.1) x.2.2)]) := by
  refine loop_of_rounds (C := orcP tabA plainL) (L := noLoops) (N := 200) (me := 61) (T := mlT2 n1 n2) (T' := mlT1 n1 n2) (orcP_ok tabA_ok plainL_ok) mixed noLoops_ok (by cases n1 <;> cases n2 <;> kernel_rfl) (by cases n1 <;> cases n2 <;> kernel_rfl) (X := Nat × Nat × List Int)
    (fun x => [.i (c : Int), .i (x.1 : Int), .l xs, .l ys, .l x.2.2]) (fun x => mInv x.2.1 xs ys x.2.2 ∧ x.1 ≤ ys.length ∧ x.2.1 + 81 * (ys.length - x.1) ≤ 1000000000000000) (fun x => ys.length - x.1)
    (fun x => (.exit 2, [.i (c : Int), .l xs, .l ys, .l (mrow (xs.getD c 0) (ys.drop x.1) (c + x.1) x.2.2)])) ?_
  rintro ⟨j, b, zs⟩ ⟨⟨hx, hy, lx, ly, lz, hb, hbb⟩, hj, hbj⟩
  dsimp only at hx hy lx ly lz hb hbb hj hbj ⊢
  have h := ml_round2 n1 n2 rd c j xs ys zs
  rw [nI_eq] at h
  rcases Nat.lt_or_ge j ys.length with hlt | hge
  · have gx := dig_get hx c
    have gy := dig_get hy j
    have gz := bnd_get hb (c + j)
    have hp : 0 ≤ xs.getD c 0 * ys.getD j 0 ∧ xs.getD c 0 * ys.getD j 0 ≤ 81 := by
      refine ⟨Int.mul_nonneg gx.1 gy.1, ?_⟩
      have := Int.mul_le_mul (show xs.getD c 0 ≤ 9 by omega) (show ys.getD j 0 ≤ 9 by omega) gy.1 (by decide)
      omega
    have hw : wr .i64 ((c : Int) + (j : Int)) = ((c + j : Nat) : Int) := by rw [wr64 (by omega) (by omega)]; omega
    rw [decide_eq_true (by omega), cond_true, hw, atI_eq (getD_some (l := zs) (p := c + j) (by omega)), atI_eq (getD_some hc), atI_eq (getD_some hlt)] at h
    unfold mlK at h
    rw [hw, nI_eq, decide_eq_true (by omega), decide_eq_true (by omega), cond_true, cond_true, wr64 (x := xs.getD c 0 * ys.getD j 0) (by omega) (by omega), wr64 (x := zs.getD (c + j) 0 + xs.getD c 0 * ys.getD j 0) (by omega) (by omega), wr64 (x := (j : Int) + 1) (by omega) (by omega), show (((c + j : Nat) : Int)).toNat = c + j by omega] at h
    refine ⟨_, _, _, h, codes0, .inl ⟨rfl, (j + 1, b + 81, zs.set (c + j) (zs.getD (c + j) 0 + xs.getD c 0 * ys.getD j 0)), rfl, ⟨⟨hx, hy, lx, ly, by dsimp only; rw [List.length_set]; exact lz, bnd_set hb hp, by dsimp only; omega⟩, by dsimp only; omega, by dsimp only; omega⟩, by dsimp only; omega, ?_⟩⟩
    dsimp only
    rw [drop_cons hlt, mrow, Nat.add_assoc]
  · rw [decide_eq_false (by omega), cond_false] at h
    rw [List.drop_eq_nil_of_le hge, mrow]
    exact ⟨_, _, _, h, codes0, .inr ⟨by simp, rfl⟩⟩
end Go.Proofs.YtnbfnoomhlamnaaGreat.N2

/- Chapter 2, the reference: mul: the outer loop. -/
namespace Go.Proofs.YtnbfnoomhlamnaaGreat.N2
open Go Go.Eng
noncomputable def mlTree2 (n1 n2 : Bool) : List PV → Fin
  | [.i c, .i j, .l xs, .l ys, .l zs] => .br (decide (j = 0 ∧ 0 ≤ c ∧ c < nI xs) && pB (mInv (81 * (c.toNat * ys.length)) xs ys zs)) (.leaf (.exit 2) ((mlT1 n1 n2).at [.i c, .l xs, .l ys, .l (mrow (xs.getD c.toNat 0) ys c.toNat zs)])) .no
  | _ => .no
noncomputable def mlL2 (n1 n2 : Bool) : Loops := sums (fun n => match n with | 6 => some (lsumF 2 (mlT2 n1 n2) mlLp2 (mlTree2 n1 n2)) | _ => none)
theorem mul_lt {a b c : Nat} (h : a < b) : a * c + c ≤ b * c := by
  have := Nat.mul_le_mul_right c (show a + 1 ≤ b from h)
  rw [Nat.add_mul, Nat.one_mul] at this
  exact this
theorem mul_big {a b : Nat} (ha : a ≤ 1000000) (hb : b ≤ 1000000) : a * b ≤ 1000000000000 := by
  have := Nat.mul_le_mul ha hb
  omega
theorem mlL2_ok (n1 n2 : Bool) : loopsOk Tryz.prog (mlL2 n1 n2) := by
  intro n g hg
  simp only [mlL2, sums] at hg
  split at hg
  · cases hg
    refine lsumF_ok (by cases n1 <;> cases n2 <;> kernel_rfl) (fun rd ps e1 st1 hq => ?_)
    unfold mlTree2 at hq
    split at hq
    · rename_i c j xs ys zs
      simp only [Fin.pick] at hq
      cases hc : (decide (j = 0 ∧ 0 ≤ c ∧ c < nI xs) && pB (mInv (81 * (c.toNat * ys.length)) xs ys zs)) with
      | false => rw [hc] at hq; cases hq
      | true =>
        rw [hc, cond_true] at hq
        cases hq
        simp only [Bool.and_eq_true, decide_eq_true_eq, pB_iff] at hc
        obtain ⟨⟨rfl, h0, h1⟩, hm⟩ := hc
        rw [nI_eq] at h1
        obtain ⟨k, rfl⟩ : ∃ k : Nat, c = k := ⟨c.toNat, by omega⟩
        rw [show ((k : Int)).toNat = k from rfl] at hm ⊢
        have h2 := mul_lt (c := ys.length) (show k < xs.length by omega)
        have h3 := mul_big hm.2.2.1 hm.2.2.2.1
        have := ml_loop2 n1 n2 rd xs ys k (by omega) (0, 81 * (k * ys.length), zs) ⟨hm, Nat.zero_le _, by dsimp only; omega⟩
        dsimp only at this
        rw [List.drop_zero, Nat.add_zero] at this
        exact this
    · cases hq
  · cases hg
end Go.Proofs.YtnbfnoomhlamnaaGreat.N2
