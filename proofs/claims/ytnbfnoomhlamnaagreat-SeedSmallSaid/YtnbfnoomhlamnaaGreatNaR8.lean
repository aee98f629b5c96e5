/- Chapter 2, the reference: mul, for every two lists of digits. -/
import Derived.Test.YtnbfnoomhlamnaaGreatNaR6
namespace Go.Proofs.YtnbfnoomhlamnaaGreat.N2
open Go Go.Eng
theorem ml_round1 (n1 n2 : Bool) (rd : Option Nat) (c : Int) (xs ys zs : List Int) : roundT Tryz.prog (orcP tabA plainL) (mlL2 n1 n2) 200 2 rd 61 mlLp1 (mlT1 n1 n2) (mlX1 n1 n2) [.i c, .l xs, .l ys, .l zs] =
    bif decide (c < nI xs) then cond (codesB [(mlLp2, mlLp2)]) (bif decide ((0 : Int) = 0 ∧ 0 ≤ c ∧ c < nI xs) && pB (mInv (81 * (c.toNat * ys.length)) xs ys zs) then some (.normal, [.i (wr .i64 (c + 1)), .l xs, .l ys, .l (mrow (xs.getD c.toNat 0) ys c.toNat zs)], []) else none) none else some (.exit 0, [.l xs, .l ys, .l zs], []) := by cases n1 <;> cases n2 <;> kernel_rfl
theorem ml_loop1 (n1 n2 : Bool) (rd : Option Nat) (xs ys : List Int) : ∀ x : Nat × List Int, (x.1 ≤ xs.length ∧ mInv (81 * (x.1 * ys.length)) xs ys x.2) →
    SimC Tryz.prog 2 rd (.loop mlLp1) ((mlT1 n1 n2).at [.i (x.1 : Int), .l xs, .l ys, .l x.2]) (.exit 0) ((mlX1 n1 n2).at [.l xs, .l ys, .l (mall ys (xs.drop x.1) x.1 x.2)]) := by
  refine loop_of_rounds (C := orcP tabA plainL) (L := mlL2 n1 n2) (N := 200) (me := 61) (T := mlT1 n1 n2) (T' := mlX1 n1 n2) (orcP_ok tabA_ok plainL_ok) mixed (mlL2_ok n1 n2) (by cases n1 <;> cases n2 <;> kernel_rfl) (by cases n1 <;> cases n2 <;> kernel_rfl) (X := Nat × List Int)
    (fun x => [.i (x.1 : Int), .l xs, .l ys, .l x.2]) (fun x => x.1 ≤ xs.length ∧ mInv (81 * (x.1 * ys.length)) xs ys x.2) (fun x => xs.length - x.1) (fun x => (.exit 0, [.l xs, .l ys, .l (mall ys (xs.drop x.1) x.1 x.2)])) ?_
  rintro ⟨c, zs⟩ ⟨hc, hm⟩
  dsimp only at hc hm ⊢
  have h := ml_round1 n1 n2 rd c xs ys zs
  rw [nI_eq, show ((c : Int)).toNat = c from rfl] at h
  rcases Nat.lt_or_ge c xs.length with hlt | hge
  · rw [decide_eq_true (by omega), cond_true, codesS, cond_true, pB_iff.2 hm, decide_eq_true (show (0 : Int) = 0 ∧ 0 ≤ (c : Int) ∧ (c : Int) < (xs.length : Int) by omega), Bool.and_self, cond_true] at h
    obtain ⟨hx, hy, lx, ly, lz, hb, hbb⟩ := hm
    have h2 := mul_lt (c := ys.length) hlt
    have h3 := mul_big lx ly
    rw [wr64 (x := (c : Int) + 1) (by omega) (by omega)] at h
    refine ⟨_, _, _, h, codes0, .inl ⟨rfl, (c + 1, mrow (xs.getD c 0) ys c zs), rfl, ⟨by dsimp only; omega, hx, hy, lx, ly, by dsimp only; rw [mrow_len]; exact lz, ?_, ?_⟩, by dsimp only; omega, ?_⟩⟩
    · dsimp only
      exact bnd_mono (mrow_bnd (dig_get hx c) hy hb) (by rw [Nat.add_mul, Nat.one_mul]; omega)
    · dsimp only
      rw [Nat.add_mul, Nat.one_mul]; omega
    · dsimp only
      rw [drop_cons hlt, mall]
  · rw [decide_eq_false (by omega), cond_false] at h
    rw [List.drop_eq_nil_of_le hge, mall]
    exact ⟨_, _, _, h, codes0, .inr ⟨by simp, rfl⟩⟩
/-! ### the carry -/
def cr : List Int → Int → List Int
  | [], _ => []
  | z :: r, c => (c + z) % 10 :: cr r ((c + z) / 10)
theorem cr_len : ∀ (l : List Int) (c : Int), (cr l c).length = l.length
  | [], _ => rfl
  | z :: r, c => by rw [cr, List.length_cons, cr_len r, List.length_cons]
theorem cr_dig : ∀ (l : List Int) (c : Int), dig (cr l c) = true
  | [], _ => rfl
  | z :: r, c => by rw [cr, dig_cons]; exact ⟨by omega, cr_dig r _⟩
theorem cr_val : ∀ (l : List Int) (c : Int), ∃ q : Int, val (cr l c) + 10 ^ l.length * q = val l + c
  | [], c => ⟨c, by simp [cr, val]⟩
  | z :: r, c => by
    obtain ⟨q, hq⟩ := cr_val r ((c + z) / 10)
    refine ⟨q, ?_⟩
    rw [cr, List.length_cons, Int.pow_succ]
    simp only [val]
    rw [show (10 : Int) ^ r.length * 10 * q = 10 * (10 ^ r.length * q) by rw [Int.mul_comm (10 ^ r.length) 10, Int.mul_assoc]]
    omega
theorem cr_exact {l : List Int} {c : Int} (h0 : 0 ≤ val l + c) (h1 : val l + c < 10 ^ l.length) : val (cr l c) = val l + c := by
  obtain ⟨q, hq⟩ := cr_val l c
  have d := cr_dig l c
  have v0 := val_nonneg d
  have v1 := val_lt d
  rw [cr_len] at v1
  have hp : (0 : Int) < 10 ^ l.length := Int.pow_pos (by decide)
  have hq0 : q = 0 := by
    rcases Int.lt_trichotomy q 0 with h | h | h
    · have := Int.mul_le_mul_of_nonneg_left (show q ≤ -1 by omega) (Int.le_of_lt hp)
      omega
    · exact h
    · have := Int.mul_le_mul_of_nonneg_left (show 1 ≤ q by omega) (Int.le_of_lt hp)
      omega
  rw [hq0] at hq
  omega
theorem set_take {l : List Int} {i : Nat} (h : i < l.length) (w : Int) : (l.set i w).take (i + 1) = l.take i ++ [w] ∧ (l.set i w).drop (i + 1) = l.drop (i + 1) := by
  constructor
  · rw [List.take_set, List.take_add_one, List.getElem?_eq_getElem h, Option.toList_some]
    have : i = (l.take i).length := by rw [List.length_take]; omega
    rw [List.set_append_right _ _ (by omega), ← this, Nat.sub_self]; rfl
  · rw [List.drop_set, if_pos (by omega)]
theorem ml_loop3 (n1 n2 : Bool) (rd : Option Nat) (xs ys : List Int) : ∀ x : Nat × Int × List Int, (x.1 ≤ x.2.2.length ∧ x.2.2.length ≤ 2000000 ∧ (0 ≤ x.2.1 ∧ x.2.1 ≤ 1000000000000000) ∧ bnd 1000000000000000 (x.2.2.drop x.1)) →
    SimC Tryz.prog 2 rd (.loop mlLp3) ((mlT3 n1 n2).at [.i x.2.1, .i (x.1 : Int), .l xs, .l ys, .l x.2.2]) (.exit 4) ((mlX1 n1 n2).at [.l xs, .l ys, .l (x.2.2.take x.1 ++ cr (x.2.2.drop x.1) x.2.1)]) := by
  refine loop_of_rounds (C := orcP tabA plainL) (L := noLoops) (N := 200) (me := 61) (T := mlT3 n1 n2) (T' := mlX1 n1 n2) (orcP_ok tabA_ok plainL_ok) mixed noLoops_ok (by cases n1 <;> cases n2 <;> kernel_rfl) (by cases n1 <;> cases n2 <;> kernel_rfl) (X := Nat × Int × List Int)
    (fun x => [.i x.2.1, .i (x.1 : Int), .l xs, .l ys, .l x.2.2]) (fun x => x.1 ≤ x.2.2.length ∧ x.2.2.length ≤ 2000000 ∧ (0 ≤ x.2.1 ∧ x.2.1 ≤ 1000000000000000) ∧ bnd 1000000000000000 (x.2.2.drop x.1)) (fun x => x.2.2.length - x.1)
    (fun x => (.exit 4, [.l xs, .l ys, .l (x.2.2.take x.1 ++ cr (x.2.2.drop x.1) x.2.1)])) ?_
  rintro ⟨i, c, zs⟩ ⟨hi, hl, hc, hb⟩
  dsimp only at hi hl hc hb ⊢
  have h := ml_round3 n1 n2 rd c i xs ys zs
  rw [nI_eq] at h
  rcases Nat.lt_or_ge i zs.length with hlt | hge
  · have hd := drop_cons hlt
    rw [hd] at hb ⊢
    have hz := hb (zs.getD i 0) (by simp)
    obtain ⟨s1, s2⟩ := set_take hlt ((c + zs.getD i 0) % 10)
    rw [decide_eq_true (show (i : Int) < (zs.length : Int) by omega), cond_true, atI_eq (getD_some hlt), decide_eq_true (show 0 ≤ (i : Int) ∧ (i : Int) < (zs.length : Int) by omega), cond_true, show ((i : Int)).toNat = i from rfl, decide_eq_true hlt, cond_true, wr64 (x := c + zs.getD i 0) (by omega) (by omega), Int.tdiv_eq_ediv_of_nonneg (by omega), Int.tmod_eq_emod_of_nonneg (by omega), wr64 (x := (c + zs.getD i 0) / 10) (by omega) (by omega), wr64 (x := (i : Int) + 1) (by omega) (by omega)] at h
    refine ⟨_, _, _, h, codes0, .inl ⟨rfl, (i + 1, (c + zs.getD i 0) / 10, zs.set i ((c + zs.getD i 0) % 10)), rfl, ⟨by dsimp only; rw [List.length_set]; omega, by dsimp only; rw [List.length_set]; omega, by dsimp only; omega, ?_⟩, by dsimp only; rw [List.length_set]; omega, ?_⟩⟩
    · dsimp only
      rw [s2]
      exact fun z hz => hb z (by simp [hz])
    · dsimp only
      rw [s1, s2, cr, List.append_assoc]; rfl
  · rw [decide_eq_false (by omega), cond_false] at h
    rw [List.drop_eq_nil_of_le hge, cr, List.append_nil, List.take_of_length_le hge]
    exact ⟨_, _, _, h, codes0, .inr ⟨by simp, rfl⟩⟩
/-! ### the loops as a whole -/
def mlZ (xs ys : List Int) : List Int := List.replicate (xs.length + ys.length) 0
def mlF (xs ys : List Int) : List Int := cr (mall ys xs 0 (mlZ xs ys)) 0
noncomputable def mlTree1 (n1 n2 : Bool) : List PV → Fin
  | [.i c, .l xs, .l ys, .l zs] => .br (decide (c = 0) && (pB (zs = mlZ xs ys) && (okD xs && okD ys))) (.leaf (.exit 0) ((mlX1 n1 n2).at [.l xs, .l ys, .l (mall ys xs 0 (mlZ xs ys))])) .no
  | _ => .no
noncomputable def mlTree3 (n1 n2 : Bool) : List PV → Fin
  | [.i c, .i i, .l xs, .l ys, .l zs] => .br (decide (c = 0 ∧ i = 0 ∧ zs.length ≤ 2000000) && pB (bnd 1000000000000000 zs)) (.leaf (.exit 4) ((mlX1 n1 n2).at [.l xs, .l ys, .l (cr zs 0)])) .no
  | _ => .no
noncomputable def mlL (n1 n2 : Bool) : Loops := sums (fun n => match n with | 3 => some (lsumF 2 (mlT1 n1 n2) mlLp1 (mlTree1 n1 n2)) | 11 => some (lsumF 2 (mlT3 n1 n2) mlLp3 (mlTree3 n1 n2)) | _ => none)
theorem mlZ_val (xs ys : List Int) : val (mlZ xs ys) = 0 ∧ bnd 0 (mlZ xs ys) ∧ (mlZ xs ys).length = xs.length + ys.length := by
  refine ⟨?_, fun z hz => ?_, by unfold mlZ; rw [List.length_replicate]⟩
  · unfold mlZ
    generalize xs.length + ys.length = n
    induction n with
    | zero => rfl
    | succ n ih => rw [List.replicate_succ, val, ih]; rfl
  · have := List.eq_of_mem_replicate hz
    omega
theorem mall_bnd {ys : List Int} (hy : dig ys = true) : ∀ {r : List Int} {i b : Nat} {zs : List Int}, dig r = true → bnd b zs → bnd (b + 81 * (r.length * ys.length)) (mall ys r i zs)
  | [], i, b, zs, _, h => by simpa [mall] using h
  | x :: r, i, b, zs, hd, h => by
    rw [dig_cons] at hd
    rw [mall, List.length_cons, Nat.add_mul, Nat.one_mul]
    exact bnd_mono (mall_bnd hy hd.2 (mrow_bnd hd.1 hy h)) (by omega)
theorem mlL_ok (n1 n2 : Bool) : loopsOk Tryz.prog (mlL n1 n2) := by
  intro n g hg
  simp only [mlL, sums] at hg
  split at hg
  · cases hg
    refine lsumF_ok (by cases n1 <;> cases n2 <;> kernel_rfl) (fun rd ps e1 st1 hq => ?_)
    unfold mlTree1 at hq
    split at hq
    · rename_i c xs ys zs
      simp only [Fin.pick] at hq
      cases hc : (decide (c = 0) && (pB (zs = mlZ xs ys) && (okD xs && okD ys))) with
      | false => rw [hc] at hq; cases hq
      | true =>
        rw [hc, cond_true] at hq
        cases hq
        simp only [Bool.and_eq_true, decide_eq_true_eq, pB_iff] at hc
        obtain ⟨rfl, rfl, hx, hy⟩ := hc
        obtain ⟨m, rfl, hm⟩ := okD_eq hx
        obtain ⟨n, rfl, hn⟩ := okD_eq hy
        obtain ⟨_, z2, z3⟩ := mlZ_val (D m) (D n)
        have := ml_loop1 n1 n2 rd (D m) (D n) (0, mlZ (D m) (D n)) ⟨Nat.zero_le _, dig_D m, dig_D n, hm, hn, z3, bnd_mono z2 (Nat.zero_le _), by dsimp only; omega⟩
        exact this
    · cases hq
  · cases hg
    refine lsumF_ok (by cases n1 <;> cases n2 <;> kernel_rfl) (fun rd ps e1 st1 hq => ?_)
    unfold mlTree3 at hq
    split at hq
    · rename_i c i xs ys zs
      simp only [Fin.pick] at hq
      cases hc : (decide (c = 0 ∧ i = 0 ∧ zs.length ≤ 2000000) && pB (bnd 1000000000000000 zs)) with
      | false => rw [hc] at hq; cases hq
      | true =>
        rw [hc, cond_true] at hq
        cases hq
        simp only [Bool.and_eq_true, decide_eq_true_eq, pB_iff] at hc
        obtain ⟨⟨rfl, rfl, hl⟩, hb⟩ := hc
        have := ml_loop3 n1 n2 rd xs ys (0, 0, zs) ⟨Nat.zero_le _, hl, by dsimp only; omega, hb⟩
        exact this
    · cases hq
  · cases hg
def mlN (xs ys : List Int) : Int := wr .i64 (nI xs + nI ys)
theorem mul_eval49 (n1 n2 : Bool) (xs ys : List Int) : evalFn Tryz.prog (orcS plainL) (mlL n1 n2) 200 61 Tryz.f61 [.gs 0, .gs 1] [.rs n1 1 (.ints .i64 xs), .rs n2 1 (.ints .i64 ys)] keepB =
    bif decide (0 ≤ mlN xs ys ∧ mlN xs ys ≤ mlN xs ys ∧ mlN xs ys * 9 ≤ 140737488355328) then cond (codesB [(mlLp1, mlLp1)]) (bif decide ((0 : Int) = 0) && (pB (List.replicate (mlN xs ys).toNat 0 = mlZ xs ys) && (okD xs && okD ys)) then
      cond (codesB [(mlLp3, mlLp3)]) (bif decide ((0 : Int) = 0 ∧ (0 : Int) = 0 ∧ (mall ys xs 0 (mlZ xs ys)).length ≤ 2000000) && pB (bnd 1000000000000000 (mall ys xs 0 (mlZ xs ys))) then bif decide ((mlF xs ys).length ≤ 9223372036854775807) then
        some (.gs 3, [.rs n1 1 (.ints .i64 xs), .rs n2 1 (.ints .i64 ys), .dead, .grow true 3 1 (.ints .i64 (List.take (tz (mlF xs ys)).length (mlF xs ys)))]) else none else none) none else none) none else none := by cases n1 <;> cases n2 <;> kernel_rfl
def prodD (xs ys : List Int) : List Int := D (val xs * val ys).toNat
theorem mul49_fn (n1 n2 : Bool) {xs ys : List Int} (hx : okD xs = true) (hy : okD ys = true) : FnOK Tryz.prog 61 [.gs 0, .gs 1] [.rs n1 1 (.ints .i64 xs), .rs n2 1 (.ints .i64 ys)] (.gs 2) ([.rs n1 1 (.ints .i64 xs), .rs n2 1 (.ints .i64 ys)] ++ [.grow true 3 1 (.ints .i64 (prodD xs ys))]) := by
  have he := mul_eval49 n1 n2 xs ys
  obtain ⟨m, rfl, hm⟩ := okD_eq hx
  obtain ⟨n, rfl, hn⟩ := okD_eq hy
  obtain ⟨z1, z2, z3⟩ := mlZ_val (D m) (D n)
  have hN : mlN (D m) (D n) = (((D m).length + (D n).length : Nat) : Int) := by
    unfold mlN
    rw [nI_eq, nI_eq, wr64 (by omega) (by omega)]; omega
  have hl : (mall (D n) (D m) 0 (mlZ (D m) (D n))).length = (D m).length + (D n).length := by rw [mall_len, z3]
  have hF : (mlF (D m) (D n)).length = (D m).length + (D n).length := by unfold mlF; rw [cr_len, hl]
  have hv : val (mall (D n) (D m) 0 (mlZ (D m) (D n))) = (m : Int) * (n : Int) := by
    rw [mall_val (D n) (by rw [z3]; omega), z1, val_D, val_D]; simp
  have hlt : (m : Int) * (n : Int) < 10 ^ ((D m).length + (D n).length) := by
    have h1 := D_lt_pow m
    have h2 := D_lt_pow n
    have h3 : m * n < 10 ^ (D m).length * 10 ^ (D n).length := Nat.mul_lt_mul'' h1 h2
    rw [← Nat.pow_add] at h3
    have h4 : (((10 ^ ((D m).length + (D n).length) : Nat)) : Int) = (10 : Int) ^ ((D m).length + (D n).length) := by rw [Int.natCast_pow]; rfl
    rw [← h4, ← Int.natCast_mul]
    omega
  have hvF : val (mlF (D m) (D n)) = (m : Int) * (n : Int) := by
    unfold mlF
    have hmn : 0 ≤ (m : Int) * (n : Int) := Int.mul_nonneg (by omega) (by omega)
    rw [cr_exact (by rw [hv]; omega) (by rw [hv, hl, Int.add_zero]; exact hlt), hv, Int.add_zero]
  have hb : bnd 1000000000000000 (mall (D n) (D m) 0 (mlZ (D m) (D n))) := by
    have := mall_bnd (i := 0) (dig_D n) (dig_D m) z2
    have h3 := mul_big hm hn
    exact bnd_mono this (by omega)
  have hz : List.take (tz (mlF (D m) (D n))).length (mlF (D m) (D n)) = prodD (D m) (D n) := by
    rw [← tz_prefix]
    have hd : dig (mlF (D m) (D n)) = true := cr_dig _ _
    rw [tz_val hd, hvF]
    unfold prodD
    rw [val_D, val_D]
  rw [hN, decide_eq_true (by omega), cond_true, codesS, cond_true, codesS, cond_true, hx, hy, pB_iff.2 hb, pB_iff.2 (by unfold mlZ; rw [show ((((D m).length + (D n).length : Nat) : Int)).toNat = (D m).length + (D n).length from rfl]), hl, hF, decide_eq_true (show (0 : Int) = 0 from rfl), decide_eq_true (show (0 : Int) = 0 ∧ (0 : Int) = 0 ∧ (D m).length + (D n).length ≤ 2000000 by omega), decide_eq_true (show (D m).length + (D n).length ≤ 9223372036854775807 by omega), hz] at he
  simp only [Bool.and_self, cond_true] at he
  obtain ⟨v1, h1, hk, hok⟩ := evalFn_ok (orcS_ok plainL_ok) mixed Tryz.func61 (mlL_ok n1 n2) he
  simp only [keepB, Option.some.injEq, Prod.mk.injEq] at hk
  obtain ⟨rfl, rfl⟩ := hk
  exact FnOK.last (h := [.rs n1 1 (.ints .i64 (D m)), .rs n2 1 (.ints .i64 (D n))]) (nb := [.dead]) (nn := true) (ty := 3) (sz := 1) (row := .ints .i64 (prodD (D m) (D n))) hok rfl two_ro
end Go.Proofs.YtnbfnoomhlamnaaGreat.N2
