/- Texts merged: R8, R9, R10, R11, R12, R13, R14. -/
import Derived.Test.YthpdeiolhahobaaDoorR2
/- Chapter 2, the reference: mul, for every two lists of digits. -/
namespace Go.Proofs.YthpdeiolhahobaaDoor
open Go Go.Eng
theorem ml_round1 (n1 n2 : Bool) (rd : Option Nat) (c : Int) (xs ys zs : List Int) : roundT Tryd.prog (orcP tabA plainL) (mlL2 n1 n2) 200 2 rd 49 mlLp1 (mlT1 n1 n2) (mlX1 n1 n2) [.i c, .l xs, .l ys, .l zs] =
    bif decide (c < nI xs) then cond (codesB [(mlLp2, mlLp2)]) (bif decide ((0 : Int) = 0 ∧ 0 ≤ c ∧ c < nI xs) && pB (mInv (81 * (c.toNat * ys.length)) xs ys zs) then some (.normal, [.i (wr .i64 (c + 1)), .l xs, .l ys, .l (mrow (xs.getD c.toNat 0) ys c.toNat zs)], []) else none) none else some (.exit 0, [.l xs, .l ys, .l zs], []) := by cases n1 <;> cases n2 <;> kernel_rfl
theorem ml_loop1 (n1 n2 : Bool) (rd : Option Nat) (xs ys : List Int) : ∀ x : Nat × List Int, (x.1 ≤ xs.length ∧ mInv (81 * (x.1 * ys.length)) xs ys x.2) →
    SimC Tryd.prog 2 rd (.loop mlLp1) ((mlT1 n1 n2).at [.i (x.1 : Int), .l xs, .l ys, .l x.2]) (.exit 0) ((mlX1 n1 n2).at [.l xs, .l ys, .l (mall ys (xs.drop x.1) x.1 x.2)]) := by
  refine loop_of_rounds (C := orcP tabA plainL) (L := mlL2 n1 n2) (N := 200) (me := 49) (T := mlT1 n1 n2) (T' := mlX1 n1 n2) (orcP_ok tabA_ok plainL_ok) mixed (mlL2_ok n1 n2) (by cases n1 <;> cases n2 <;> kernel_rfl) (by cases n1 <;> cases n2 <;> kernel_rfl) (X := Nat × List Int)
    (fun x => [.i (x.1 : Int), .l xs, .l ys, .l x.2]) (fun x => x.1 ≤ xs.length ∧ mInv (81 * (x.1 * ys.length)) xs ys x.2) (fun x => xs.length - x.1) (fun x => (.exit 0, [.l xs, .l ys, .l (mall ys (xs.drop x.1) x.1 x.2)])) ?_
  rintro ⟨c, zs⟩ ⟨hc, hm⟩
  dsimp only at hc hm ⊢
  have h := ml_round1 n1 n2 rd c xs ys zs
  rw [nI_eq, show ((c : Int)).toNat = c from rfl] at h
  rcases Nat.lt_or_ge c xs.length with hlt | hge
  · rw [decide_eq_true (by omega), cond_true, codesS, cond_true, pB_iff.2 hm, decide_eq_true (show (0 : Int) = 0 ∧ 0 ≤ (c : Int) ∧ (c : Int) < (xs.length : Int) by omega), Bool.and_self, cond_true] at h
    obtain ⟨hx, hy, lx, ly, lz, hb, hbb⟩ := hm
    have h2 := mul_lt (c := ys.length) hlt
    have h3 := mul_big lx ly
    rw [wr64 (x := (c : Int) + 1) (by omega) (by omega)] at h
    refine ⟨_, _, _, h, codes0, .inl ⟨rfl, (c + 1, mrow (xs.getD c 0) ys c zs), rfl, ⟨by dsimp only; omega, hx, hy, lx, ly, by dsimp only; rw [mrow_len]; exact lz, ?_, ?_⟩, by dsimp only; omega, ?_⟩⟩
    · dsimp only
      exact bnd_mono (mrow_bnd (dig_get hx c) hy hb) (by rw [Nat.add_mul, Nat.one_mul]; omega)
    · dsimp only
      rw [Nat.add_mul, Nat.one_mul]; omega
    · dsimp only
      rw [drop_cons hlt, mall]
  · rw [decide_eq_false (by omega), cond_false] at h
    rw [List.drop_eq_nil_of_le hge, mall]
    exact ⟨_, _, _, h, codes0, .inr ⟨by simp, rfl⟩⟩
/-! ### the carry -/
def cr : List Int → Int → List Int
  | [], _ => []
  | z :: r, c => (c + z) % 10 :: cr r ((c + z) / 10)
theorem cr_len : ∀ (l : List Int) (c : Int), (cr l c).length = l.length
  | [], _ => rfl
  | z :: r, c => by rw [cr, List.length_cons, cr_len r, List.length_cons]
theorem cr_dig : ∀ (l : List Int) (c : Int), dig (cr l c) = true
  | [], _ => rfl
  | z :: r, c => by rw [cr, dig_cons]; exact ⟨by omega, cr_dig r _⟩
theorem cr_val : ∀ (l : List Int) (c : Int), ∃ q : Int, val (cr l c) + 10 ^ l.length * q = val l + c
  | [], c => ⟨c, by simp [cr, val]⟩
  | z :: r, c => by
    obtain ⟨q, hq⟩ := cr_val r ((c + z) / 10)
    refine ⟨q, ?_⟩
    rw [cr, List.length_cons, Int.pow_succ]
    simp only [val]
    rw [show (10 : Int) ^ r.length * 10 * q = 10 * (10 ^ r.length * q) by rw [Int.mul_comm (10 ^ r.length) 10, Int.mul_assoc]]
    omega
theorem cr_exact {l : List Int} {c : Int} (h0 : 0 ≤ val l + c) (h1 : val l + c < 10 ^ l.length) : val (cr l c) = val l + c := by
  obtain ⟨q, hq⟩ := cr_val l c
  have d := cr_dig l c
  have v0 := val_nonneg d
  have v1 := val_lt d
  rw [cr_len] at v1
  have hp : (0 : Int) < 10 ^ l.length := Int.pow_pos (by decide)
  have hq0 : q = 0 := by
    rcases Int.lt_trichotomy q 0 with h | h | h
    · have := Int.mul_le_mul_of_nonneg_left (show q ≤ -1 by omega) (Int.le_of_lt hp)
      omega
    · exact h
    · have := Int.mul_le_mul_of_nonneg_left (show 1 ≤ q by omega) (Int.le_of_lt hp)
      omega
  rw [hq0] at hq
  omega
theorem set_take {l : List Int} {i : Nat} (h : i < l.length) (w : Int) : (l.set i w).take (i + 1) = l.take i ++ [w] ∧ (l.set i w).drop (i + 1) = l.drop (i + 1) := by
  constructor
  · rw [List.take_set, List.take_add_one, List.getElem?_eq_getElem h, Option.toList_some]
    have : i = (l.take i).length := by rw [List.length_take]; omega
    rw [List.set_append_right _ _ (by omega), ← this, Nat.sub_self]; rfl
  · rw [List.drop_set, if_pos (by omega)]
theorem ml_loop3 (n1 n2 : Bool) (rd : Option Nat) (xs ys : List Int) : ∀ x : Nat × Int × List Int, (x.1 ≤ x.2.2.length ∧ x.2.2.length ≤ 2000000 ∧ (0 ≤ x.2.1 ∧ x.2.1 ≤ 1000000000000000) ∧ bnd 1000000000000000 (x.2.2.drop x.1)) →
    SimC Tryd.prog 2 rd (.loop mlLp3) ((mlT3 n1 n2).at [.i x.2.1, .i (x.1 : Int), .l xs, .l ys, .l x.2.2]) (.exit 4) ((mlX1 n1 n2).at [.l xs, .l ys, .l (x.2.2.take x.1 ++ cr (x.2.2.drop x.1) x.2.1)]) := by
  refine loop_of_rounds (C := orcP tabA plainL) (L := noLoops) (N := 200) (me := 49) (T := mlT3 n1 n2) (T' := mlX1 n1 n2) (orcP_ok tabA_ok plainL_ok) mixed noLoops_ok (by cases n1 <;> cases n2 <;> kernel_rfl) (by cases n1 <;> cases n2 <;> kernel_rfl) (X := Nat × Int × List Int)
    (fun x => [.i x.2.1, .i (x.1 : Int), .l xs, .l ys, .l x.2.2]) (fun x => x.1 ≤ x.2.2.length ∧ x.2.2.length ≤ 2000000 ∧ (0 ≤ x.2.1 ∧ x.2.1 ≤ 1000000000000000) ∧ bnd 1000000000000000 (x.2.2.drop x.1)) (fun x => x.2.2.length - x.1)
    (fun x => (.exit 4, [.l xs, .l ys, .l (x.2.2.take x.1 ++ cr (x.2.2.drop x.1) x.2.1)])) ?_
  rintro ⟨i, c, zs⟩ ⟨hi, hl, hc, hb⟩
  dsimp only at hi hl hc hb ⊢
  have h := ml_round3 n1 n2 rd c i xs ys zs
  rw [nI_eq] at h
  rcases Nat.lt_or_ge i zs.length with hlt | hge
  · have hd := drop_cons hlt
    rw [hd] at hb ⊢
    have hz := hb (zs.getD i 0) (by simp)
    obtain ⟨s1, s2⟩ := set_take hlt ((c + zs.getD i 0) % 10)
    rw [decide_eq_true (show (i : Int) < (zs.length : Int) by omega), cond_true, atI_eq (getD_some hlt), decide_eq_true (show 0 ≤ (i : Int) ∧ (i : Int) < (zs.length : Int) by omega), cond_true, show ((i : Int)).toNat = i from rfl, decide_eq_true hlt, cond_true, wr64 (x := c + zs.getD i 0) (by omega) (by omega), Int.tdiv_eq_ediv_of_nonneg (by omega), Int.tmod_eq_emod_of_nonneg (by omega), wr64 (x := (c + zs.getD i 0) / 10) (by omega) (by omega), wr64 (x := (i : Int) + 1) (by omega) (by omega)] at h
    refine ⟨_, _, _, h, codes0, .inl ⟨rfl, (i + 1, (c + zs.getD i 0) / 10, zs.set i ((c + zs.getD i 0) % 10)), rfl, ⟨by dsimp only; rw [List.length_set]; omega, by dsimp only; rw [List.length_set]; omega, by dsimp only; omega, ?_⟩, by dsimp only; rw [List.length_set]; omega, ?_⟩⟩
    · dsimp only
      rw [s2]
      exact fun z hz => hb z (by simp [hz])
    · dsimp only
      rw [s1, s2, cr, List.append_assoc]; rfl
  · rw [decide_eq_false (by omega), cond_false] at h
    rw [List.drop_eq_nil_of_le hge, cr, List.append_nil, List.take_of_length_le hge]
    exact ⟨_, _, _, h, codes0, .inr ⟨by simp, rfl⟩⟩
/-! ### the loops as a whole -/
def mlZ (xs ys : List Int) : List Int := List.replicate (xs.length + ys.length) 0
def mlF (xs ys : List Int) : List Int := cr (mall ys xs 0 (mlZ xs ys)) 0
noncomputable def mlTree1 (n1 n2 : Bool) : List PV → Fin
  | [.i c, .l xs, .l ys, .l zs] => .br (decide (c = 0) && (pB (zs = mlZ xs ys) && (okD xs && okD ys))) (.leaf (.exit 0) ((mlX1 n1 n2).at [.l xs, .l ys, .l (mall ys xs 0 (mlZ xs ys))])) .no
  | _ => .no
noncomputable def mlTree3 (n1 n2 : Bool) : List PV → Fin
  | [.i c, .i i, .l xs, .l ys, .l zs] => .br (decide (c = 0 ∧ i = 0 ∧ zs.length ≤ 2000000) && pB (bnd 1000000000000000 zs)) (.leaf (.exit 4) ((mlX1 n1 n2).at [.l xs, .l ys, .l (cr zs 0)])) .no
  | _ => .no
noncomputable def mlL (n1 n2 : Bool) : Loops := sums (fun n => match n with | 3 => some (lsumF 2 (mlT1 n1 n2) mlLp1 (mlTree1 n1 n2)) | 11 => some (lsumF 2 (mlT3 n1 n2) mlLp3 (mlTree3 n1 n2)) | _ => none)
theorem mlZ_val (xs ys : List Int) : val (mlZ xs ys) = 0 ∧ bnd 0 (mlZ xs ys) ∧ (mlZ xs ys).length = xs.length + ys.length := by
  refine ⟨?_, fun z hz => ?_, by unfold mlZ; rw [List.length_replicate]⟩
  · unfold mlZ
    generalize xs.length + ys.length = n
    induction n with
    | zero => rfl
    | succ n ih => rw [List.replicate_succ, val, ih]; rfl
  · have := List.eq_of_mem_replicate hz
    omega
theorem mall_bnd {ys : List Int} (hy : dig ys = true) : ∀ {r : List Int} {i b : Nat} {zs : List Int}, dig r = true → bnd b zs → bnd (b + 81 * (r.length * ys.length)) (mall ys r i zs)
  | [], i, b, zs, _, h => by simpa [mall] using h
  | x :: r, i, b, zs, hd, h => by
    rw [dig_cons] at hd
    rw [mall, List.length_cons, Nat.add_mul, Nat.one_mul]
    exact bnd_mono (mall_bnd hy hd.2 (mrow_bnd hd.1 hy h)) (by omega)
theorem mlL_ok (n1 n2 : Bool) : loopsOk Tryd.prog (mlL n1 n2) := by
  intro n g hg
  simp only [mlL, sums] at hg
  split at hg
  · cases hg
    refine lsumF_ok (by cases n1 <;> cases n2 <;> kernel_rfl) (fun rd ps e1 st1 hq => ?_)
    unfold mlTree1 at hq
    split at hq
    · rename_i c xs ys zs
      simp only [Fin.pick] at hq
      cases hc : (decide (c = 0) && (pB (zs = mlZ xs ys) && (okD xs && okD ys))) with
      | false => rw [hc] at hq; cases hq
      | true =>
        rw [hc, cond_true] at hq
        cases hq
        simp only [Bool.and_eq_true, decide_eq_true_eq, pB_iff] at hc
        obtain ⟨rfl, rfl, hx, hy⟩ := hc
        obtain ⟨m, rfl, hm⟩ := okD_eq hx
        obtain ⟨n, rfl, hn⟩ := okD_eq hy
        obtain ⟨_, z2, z3⟩ := mlZ_val (D m) (D n)
        have := ml_loop1 n1 n2 rd (D m) (D n) (0, mlZ (D m) (D n)) ⟨Nat.zero_le _, dig_D m, dig_D n, hm, hn, z3, bnd_mono z2 (Nat.zero_le _), by dsimp only; omega⟩
        exact this
    · cases hq
  · cases hg
    refine lsumF_ok (by cases n1 <;> cases n2 <;> kernel_rfl) (fun rd ps e1 st1 hq => ?_)
    unfold mlTree3 at hq
    split at hq
    · rename_i c i xs ys zs
      simp only [Fin.pick] at hq
      cases hc : (decide (c = 0 ∧ i = 0 ∧ zs.length ≤ 2000000) && pB (bnd 1000000000000000 zs)) with
      | false => rw [hc] at hq; cases hq
      | true =>
        rw [hc, cond_true] at hq
        cases hq
        simp only [Bool.and_eq_true, decide_eq_true_eq, pB_iff] at hc
        obtain ⟨⟨rfl, rfl, hl⟩, hb⟩ := hc
        have := ml_loop3 n1 n2 rd xs ys (0, 0, zs) ⟨Nat.zero_le _, hl, by dsimp only; omega, hb⟩
        exact this
    · cases hq
  · cases hg
def mlN (xs ys : List Int) : Int := wr .i64 (nI xs + nI ys)
theorem mul_eval49 (n1 n2 : Bool) (xs ys : List Int) : evalFn Tryd.prog (orcS plainL) (mlL n1 n2) 200 49 Tryd.f49 [.gs 0, .gs 1] [.rs n1 1 (.ints .i64 xs), .rs n2 1 (.ints .i64 ys)] keepB =
    bif decide (0 ≤ mlN xs ys ∧ mlN xs ys ≤ mlN xs ys ∧ mlN xs ys * 9 ≤ 140737488355328) then cond (codesB [(mlLp1, mlLp1)]) (bif decide ((0 : Int) = 0) && (pB (List.replicate (mlN xs ys).toNat 0 = mlZ xs ys) && (okD xs && okD ys)) then
      cond (codesB [(mlLp3, mlLp3)]) (bif decide ((0 : Int) = 0 ∧ (0 : Int) = 0 ∧ (mall ys xs 0 (mlZ xs ys)).length ≤ 2000000) && pB (bnd 1000000000000000 (mall ys xs 0 (mlZ xs ys))) then bif decide ((mlF xs ys).length ≤ 9223372036854775807) then
        some (.gs 3, [.rs n1 1 (.ints .i64 xs), .rs n2 1 (.ints .i64 ys), .dead, .grow true 3 1 (.ints .i64 (List.take (tz (mlF xs ys)).length (mlF xs ys)))]) else none else none) none else none) none else none := by cases n1 <;> cases n2 <;> kernel_rfl
def prodD (xs ys : List Int) : List Int := D (val xs * val ys).toNat
theorem mul49_fn (n1 n2 : Bool) {xs ys : List Int} (hx : okD xs = true) (hy : okD ys = true) : FnOK Tryd.prog 49 [.gs 0, .gs 1] [.rs n1 1 (.ints .i64 xs), .rs n2 1 (.ints .i64 ys)] (.gs 2) ([.rs n1 1 (.ints .i64 xs), .rs n2 1 (.ints .i64 ys)] ++ [.grow true 3 1 (.ints .i64 (prodD xs ys))]) := by
  have he := mul_eval49 n1 n2 xs ys
  obtain ⟨m, rfl, hm⟩ := okD_eq hx
  obtain ⟨n, rfl, hn⟩ := okD_eq hy
  obtain ⟨z1, z2, z3⟩ := mlZ_val (D m) (D n)
  have hN : mlN (D m) (D n) = (((D m).length + (D n).length : Nat) : Int) := by
    unfold mlN
    rw [nI_eq, nI_eq, wr64 (by omega) (by omega)]; omega
  have hl : (mall (D n) (D m) 0 (mlZ (D m) (D n))).length = (D m).length + (D n).length := by rw [mall_len, z3]
  have hF : (mlF (D m) (D n)).length = (D m).length + (D n).length := by unfold mlF; rw [cr_len, hl]
  have hv : val (mall (D n) (D m) 0 (mlZ (D m) (D n))) = (m : Int) * (n : Int) := by
    rw [mall_val (D n) (by rw [z3]; omega), z1, val_D, val_D]; simp
  have hlt : (m : Int) * (n : Int) < 10 ^ ((D m).length + (D n).length) := by
    have h1 := D_lt_pow m
    have h2 := D_lt_pow n
    have h3 : m * n < 10 ^ (D m).length * 10 ^ (D n).length := Nat.mul_lt_mul'' h1 h2
    rw [← Nat.pow_add] at h3
    have h4 : (((10 ^ ((D m).length + (D n).length) : Nat)) : Int) = (10 : Int) ^ ((D m).length + (D n).length) := by rw [Int.natCast_pow]; rfl
    rw [← h4, ← Int.natCast_mul]
    omega
  have hvF : val (mlF (D m) (D n)) = (m : Int) * (n : Int) := by
    unfold mlF
    have hmn : 0 ≤ (m : Int) * (n : Int) := Int.mul_nonneg (by omega) (by omega)
    rw [cr_exact (by rw [hv]; omega) (by rw [hv, hl, Int.add_zero]; exact hlt), hv, Int.add_zero]
  have hb : bnd 1000000000000000 (mall (D n) (D m) 0 (mlZ (D m) (D n))) := by
    have := mall_bnd (i := 0) (dig_D n) (dig_D m) z2
    have h3 := mul_big hm hn
    exact bnd_mono this (by omega)
  have hz : List.take (tz (mlF (D m) (D n))).length (mlF (D m) (D n)) = prodD (D m) (D n) := by
    rw [← tz_prefix]
    have hd : dig (mlF (D m) (D n)) = true := cr_dig _ _
    rw [tz_val hd, hvF]
    unfold prodD
    rw [val_D, val_D]
  rw [hN, decide_eq_true (by omega), cond_true, codesS, cond_true, codesS, cond_true, hx, hy, pB_iff.2 hb, pB_iff.2 (by unfold mlZ; rw [show ((((D m).length + (D n).length : Nat) : Int)).toNat = (D m).length + (D n).length from rfl]), hl, hF, decide_eq_true (show (0 : Int) = 0 from rfl), decide_eq_true (show (0 : Int) = 0 ∧ (0 : Int) = 0 ∧ (D m).length + (D n).length ≤ 2000000 by omega), decide_eq_true (show (D m).length + (D n).length ≤ 9223372036854775807 by omega), hz] at he
  simp only [Bool.and_self, cond_true] at he
  obtain ⟨v1, h1, hk, hok⟩ := evalFn_ok (orcS_ok plainL_ok) mixed Tryd.func49 (mlL_ok n1 n2) he
  simp only [keepB, Option.some.injEq, Prod.mk.injEq] at hk
  obtain ⟨rfl, rfl⟩ := hk
  exact FnOK.last (h := [.rs n1 1 (.ints .i64 (D m)), .rs n2 1 (.ints .i64 (D n))]) (nb := [.dead]) (nn := true) (ty := 3) (sz := 1) (row := .ints .i64 (prodD (D m) (D n))) hok rfl two_ro
end Go.Proofs.YthpdeiolhahobaaDoor

/- Chapter 2, the reference: the lists' functions in a table. -/
namespace Go.Proofs.YthpdeiolhahobaaDoor
open Go Go.Eng
/-- Lists of digits and their functions, as names alone. -/
structure ND where
  D : Int → List Int
  sum : List Int → List Int → List Int
  diff : List Int → List Int → List Int
  prod : List Int → List Int → List Int
  ok : List Int → Bool
  okS : List Int → List Int → Bool
  lt : List Int → List Int → Bool
  val : List Int → Int
  okV : List Int → Bool
  okI : Int → Bool
def gOf (N : ND) : List V → List Blk → Option (Bool × V × List Blk)
  | [.int .i64 n], [] => some (N.okI n, .gs 0, [.grow false 3 1 (.ints .i64 (N.D n))])
  | _, _ => none
def gAdd67 (N : ND) : List V → List Blk → Option (Bool × V × List Blk)
  | [.gs 0, .gs 1], [.rs _ 1 (.ints .i64 xs), .rs _ 1 (.ints .i64 ys)] => some (N.ok xs && N.ok ys, .gs 2, [.grow false 3 1 (.ints .i64 (N.sum xs ys))])
  | _, _ => none
def gSub69 (N : ND) : List V → List Blk → Option (Bool × V × List Blk)
  | [.gs 0, .gs 1], [.rs _ 1 (.ints .i64 xs), .rs _ 1 (.ints .i64 ys)] => some (N.okS xs ys, .gs 2, [.grow false 3 1 (.ints .i64 (N.diff xs ys))])
  | _, _ => none
def gMul49 (N : ND) : List V → List Blk → Option (Bool × V × List Blk)
  | [.gs 0, .gs 1], [.rs _ 1 (.ints .i64 xs), .rs _ 1 (.ints .i64 ys)] => some (N.ok xs && N.ok ys, .gs 2, [.grow true 3 1 (.ints .i64 (N.prod xs ys))])
  | _, _ => none
def gLess68 (N : ND) : List V → List Blk → Option (Bool × V × List Blk)
  | [.gs 0, .gs 1], [.rs _ 1 (.ints .i64 xs), .rs _ 1 (.ints .i64 ys)] => some (N.ok xs && N.ok ys, .bool (N.lt xs ys), [])
  | _, _ => none
def gValue70 (N : ND) : List V → List Blk → Option (Bool × V × List Blk)
  | [.gs 0], [.rs _ 1 (.ints .i64 xs)] => some (N.okV xs, .int .i64 (N.val xs), [])
  | _, _ => none
def gWord (N : ND) : List V → List Blk → Option (Bool × V × List Blk)
  | [], [] => some (true, .gs 0, [.grow false 3 1 (.ints .i64 (N.D 4294967296))])
  | _, _ => none
def hTabD0 (N : ND) : HTab := addH 51 (gOf N) (addH 67 (gAdd67 N) (addH 69 (gSub69 N) (addH 49 (gMul49 N) (addH 68 (gLess68 N) (addH 70 (gValue70 N) emptyH)))))
def hTabD (N : ND) : HTab := addH 72 (gWord N) (hTabD0 N)
/-- Functions that take a nil slice for a list. -/
def nrI : FuncId → Option Row := fun f => bif Nat.beq f 67 || (Nat.beq f 69 || (Nat.beq f 49 || (Nat.beq f 68 || (Nat.beq f 70 || (Nat.beq f 52 || Nat.beq f 47))))) then some (.ints .i64 []) else none
def domD : FuncId → Bool := fun f => Nat.beq f 48 || (Nat.beq f 51 || (Nat.beq f 67 || (Nat.beq f 69 || (Nat.beq f 49 || (Nat.beq f 68 || (Nat.beq f 70 || Nat.beq f 72))))))
noncomputable abbrev orcD (HT : HTab) (LL : FuncId → Loops) : Oracle := inl Tryd.prog ftab tabA LL 200 never domD (orElse domT (resOrc rTab) (hOrcP nrI HT)) 20
theorem orcD_ok {HT : HTab} (hT : HTabOk Tryd.prog HT) {LL : FuncId → Loops} (hL : ∀ f, loopsOk Tryd.prog (LL f)) : OracleOk Tryd.prog (orcD HT LL) := inl_ok (orElse_ok (resOrc_ok rTab_ok) (hOrcP_ok hT)) ftab_ok tabA_ok hL mixed 20
def ltD (xs ys : List Int) : Bool := decide (val xs < val ys)
def okVD (xs : List Int) : Bool := isD xs && decide (val xs < 9223372036854775808)
def okID (n : Int) : Bool := decide (0 ≤ n ∧ n < 9223372036854775808)
def DD (n : Int) : List Int := D n.toNat
def D0 : ND := ⟨DD, sumD, diffD, prodD, okD, sbC, ltD, val, okVD, okID⟩
theorem hTabD0_ok : HTabOk Tryd.prog (hTabD0 D0) := by
  refine addH_ok ?_ (addH_ok ?_ (addH_ok ?_ (addH_ok ?_ (addH_ok ?_ (addH_ok ?_ emptyH_ok)))))
  · intro args h c v nb hq hc
    unfold gOf at hq
    split at hq
    · cases hq; exact ⟨.of Tryd.func51 (by kernel_rfl), of51_fn (of_decide_eq_true hc)⟩
    · cases hq
  · intro args h c v nb hq hc
    unfold gAdd67 at hq
    split at hq
    · rename_i n1 xs n2 ys
      cases hq
      have hc' : (okD xs && okD ys) = true := hc
      simp only [Bool.and_eq_true] at hc'
      exact ⟨.of Tryd.func67 (by kernel_rfl), add67_fn n1 n2 hc'.1 hc'.2⟩
    · cases hq
  · intro args h c v nb hq hc
    unfold gSub69 at hq
    split at hq
    · rename_i n1 xs n2 ys
      cases hq
      exact ⟨.of Tryd.func69 (by kernel_rfl), sub69_fn n1 n2 hc⟩
    · cases hq
  · intro args h c v nb hq hc
    unfold gMul49 at hq
    split at hq
    · rename_i n1 xs n2 ys
      cases hq
      have hc' : (okD xs && okD ys) = true := hc
      simp only [Bool.and_eq_true] at hc'
      exact ⟨.of Tryd.func49 (by kernel_rfl), mul49_fn n1 n2 hc'.1 hc'.2⟩
    · cases hq
  · intro args h c v nb hq hc
    unfold gLess68 at hq
    split at hq
    · rename_i n1 xs n2 ys
      cases hq
      have hc' : (okD xs && okD ys) = true := hc
      simp only [Bool.and_eq_true] at hc'
      exact ⟨.of Tryd.func68 (by kernel_rfl), less_fn n1 n2 hc'.1 hc'.2⟩
    · cases hq
  · intro args h c v nb hq hc
    unfold gValue70 at hq
    split at hq
    · rename_i n1 xs
      cases hq
      exact ⟨.of Tryd.func70 (by kernel_rfl), value_fn n1 hc⟩
    · cases hq
theorem word_eval (N : ND) : evalFn Tryd.prog (orcD (hTabD0 N) plainL) noLoops 200 72 Tryd.f72 [] [] keepB = bif N.okI 4294967296 then some (.gs 0, [.grow false 3 1 (.ints .i64 (N.D 4294967296))]) else none := by kernel_rfl
theorem hTabD_ok : HTabOk Tryd.prog (hTabD D0) := by
  refine addH_ok ?_ hTabD0_ok
  intro args h c v nb hq hc
  unfold gWord at hq
  split at hq
  · cases hq
    refine ⟨.of Tryd.func72 (by kernel_rfl), ?_⟩
    have he := word_eval D0
    rw [show D0.okI 4294967296 = true from by show okID 4294967296 = true; unfold okID; decide, cond_true] at he
    obtain ⟨v1, h1, hk, hok⟩ := evalFn_ok (orcD_ok hTabD0_ok plainL_ok) mixed Tryd.func72 noLoops_ok he
    simp only [keepB, Option.some.injEq, Prod.mk.injEq] at hk
    obtain ⟨rfl, rfl⟩ := hk
    exact hok
  · cases hq
end Go.Proofs.YthpdeiolhahobaaDoor

/- Chapter 2, the reference: the digits of a number; 2^128. -/
namespace Go.Proofs.YthpdeiolhahobaaDoor
open Go Go.Eng
/-- One word more. -/
def ND.step (N : ND) (l : List Int) (x : Int) : List Int := N.sum (N.prod l (N.D 4294967296)) (N.D (wr .i64 x))
def ND.stepC {α : Type} (N : ND) (l : List Int) (x : Int) (K : Option α) : Option α := bif N.ok l && N.ok (N.D 4294967296) then bif N.okI (wr .i64 x) then bif N.ok (N.prod l (N.D 4294967296)) && N.ok (N.D (wr .i64 x)) then K else none else none else none
theorem digits_eval (N : ND) (a b c d : Int) : evalFn Tryd.prog (orcD (hTabD N) plainL) noLoops 200 50 Tryd.f50 [.agg [.int .u32 a, .int .u32 b, .int .u32 c, .int .u32 d]] [] lastK =
    N.stepC [] d (N.stepC (N.step [] d) c (N.stepC (N.step (N.step [] d) c) b (N.stepC (N.step (N.step (N.step [] d) c) b) a (bif decide ((N.step (N.step (N.step (N.step [] d) c) b) a).length ≤ 9223372036854775807) then
      some (false, 3, 1, .ints .i64 (List.take (tz (N.step (N.step (N.step (N.step [] d) c) b) a)).length (N.step (N.step (N.step (N.step [] d) c) b) a))) else none)))) := by kernel_rfl
theorem len_D {n K : Nat} (h : n < 10 ^ K) (hK : K ≤ 1000000) : okD (D n) = true := okD_D (Nat.le_trans (D_len_lt h) hK)
theorem okD_lt {n : Nat} (h : n < 340282366920938463463374607431768211456) : okD (D n) = true := len_D (K := 39) (Nat.lt_trans h (by decide)) (by decide)
theorem DD_eq (n : Nat) : DD (n : Int) = D n := rfl
theorem step_eq {n : Nat} {x : Int} (hn : n < 79228162514264337593543950336) (hx : 0 ≤ x ∧ x < 4294967296) : (∀ {α : Type} (K : Option α), D0.stepC (D n) x K = K) ∧ D0.step (D n) x = D (n * 4294967296 + x.toNat) := by
  have hw : wr .i64 x = x := wr64 (by omega) (by omega)
  have hDw : D0.D 4294967296 = D 4294967296 := rfl
  have hDx : D0.D x = D x.toNat := rfl
  have hp : D0.prod (D n) (D 4294967296) = D (n * 4294967296) := by
    rw [show D0.prod = prodD from rfl]
    unfold prodD
    rw [val_D, val_D]
    rw [show ((n : Int) * ((4294967296 : Nat) : Int)).toNat = n * 4294967296 by omega]
  have k1 : D0.ok (D n) = true := okD_lt (n := n) (by omega)
  have k2 : D0.ok (D 4294967296) = true := okD_lt (n := 4294967296) (by omega)
  have k3 : D0.ok (D (n * 4294967296)) = true := okD_lt (n := n * 4294967296) (by omega)
  have k4 : D0.ok (D x.toNat) = true := okD_lt (n := x.toNat) (by omega)
  have k5 : D0.okI x = true := by rw [show D0.okI = okID from rfl]; unfold okID; rw [decide_eq_true (by omega)]
  constructor
  · intro α K
    unfold ND.stepC
    rw [hw, hDw, hDx, hp, k1, k2, k3, k4, k5]; rfl
  · unfold ND.step
    rw [hw, hDw, hDx, hp, show D0.sum = sumD from rfl]
    unfold sumD
    rw [val_D, val_D]
    rw [show (((n * 4294967296 : Nat) : Int) + ((x.toNat : Nat) : Int)).toNat = n * 4294967296 + x.toNat by omega]
theorem no_blk : ∀ (b : Nat) blk, ([] : List Blk)[b]? = some blk → blk.mine = false := fun b blk h => by simp at h
theorem digits_fn {a b c d : Int} (h : inN a b c d = true) : FnOK Tryd.prog 50 [.agg [.int .u32 a, .int .u32 b, .int .u32 c, .int .u32 d]] [] (.gs 0) ([] ++ [.grow false 3 1 (.ints .i64 (DD (nval a b c d)))]) := by
  have he := digits_eval D0 a b c d
  have hr := nval_range h
  rw [inN_iff] at h
  obtain ⟨ha, hb, hc, hd⟩ := h
  obtain ⟨s1, e1⟩ := step_eq (n := 0) (by omega) hd
  obtain ⟨s2, e2⟩ := step_eq (n := 0 * 4294967296 + d.toNat) (by omega) hc
  obtain ⟨s3, e3⟩ := step_eq (n := (0 * 4294967296 + d.toNat) * 4294967296 + c.toNat) (by omega) hb
  obtain ⟨s4, e4⟩ := step_eq (n := ((0 * 4294967296 + d.toNat) * 4294967296 + c.toNat) * 4294967296 + b.toNat) (by omega) ha
  rw [show D 0 = [] from rfl] at s1 e1
  have hN : (((0 * 4294967296 + d.toNat) * 4294967296 + c.toNat) * 4294967296 + b.toNat) * 4294967296 + a.toNat = (nval a b c d).toNat := by unfold nval; omega
  have hlen : (D (nval a b c d).toNat).length ≤ 39 := D_len_lt (Nat.lt_trans (show (nval a b c d).toNat < 340282366920938463463374607431768211456 by omega) (by decide))
  rw [s1, e1, s2, e2, s3, e3, s4, e4, hN, tz_D, List.take_length, decide_eq_true (by omega), cond_true] at he
  obtain ⟨v1, h1, hk, hok⟩ := evalFn_ok (orcD_ok hTabD_ok plainL_ok) mixed Tryd.func50 noLoops_ok he
  exact lastK_fn hk hok rfl no_blk
theorem most_eval (N : ND) : evalFn Tryd.prog (orcD (hTabD N) plainL) noLoops 200 71 Tryd.f71 [] [] lastK =
    bif N.ok (N.D 4294967296) && N.ok (N.D 4294967296) then bif N.ok (N.D 4294967296) && N.ok (N.D 4294967296) then bif N.ok (N.prod (N.D 4294967296) (N.D 4294967296)) && N.ok (N.prod (N.D 4294967296) (N.D 4294967296)) then
      some (true, 3, 1, .ints .i64 (N.prod (N.prod (N.D 4294967296) (N.D 4294967296)) (N.prod (N.D 4294967296) (N.D 4294967296)))) else none else none else none := by kernel_rfl
theorem prodD_D (m n : Nat) : prodD (D m) (D n) = D (m * n) := by
  unfold prodD
  rw [val_D, val_D, ← Int.natCast_mul]; rfl
theorem most_fn : FnOK Tryd.prog 71 [] [] (.gs 0) ([] ++ [.grow true 3 1 (.ints .i64 (D 340282366920938463463374607431768211456))]) := by
  have he := most_eval D0
  have hDw : D0.D 4294967296 = D 4294967296 := rfl
  have k1 : D0.ok (D 4294967296) = true := okD_lt (n := 4294967296) (by omega)
  have k2 : D0.ok (D (4294967296 * 4294967296)) = true := okD_lt (n := 4294967296 * 4294967296) (by omega)
  rw [hDw, show D0.prod = prodD from rfl, prodD_D, prodD_D, k1, k2, show 4294967296 * 4294967296 * (4294967296 * 4294967296) = 340282366920938463463374607431768211456 from rfl] at he
  simp only [Bool.and_self, cond_true] at he
  obtain ⟨v1, h1, hk, hok⟩ := evalFn_ok (orcD_ok hTabD_ok plainL_ok) mixed Tryd.func71 noLoops_ok he
  exact lastK_fn hk hok rfl no_blk
end Go.Proofs.YthpdeiolhahobaaDoor

/- Chapter 2, the reference: div: the states of its loops. -/
namespace Go.Proofs.YthpdeiolhahobaaDoor
open Go Go.Eng
noncomputable def dqLp1 : Code := loopOf 4 Tryd.f52
noncomputable def dqLp2 : Code := loopOf 7 Tryd.f52
def dqT (n1 n2 : Bool) : Tm := ⟨mkS [(0, .gs 0), (1, .gs 1), (6, .gs 2), (7, .gs 3), (8, .int .i64)] 0 43, two n1 n2 ++ [.grow true 3 1 i64s, .grow false 3 1 i64s], []⟩
def dqX (n1 n2 : Bool) : Tm := ⟨mkS [(6, .gs 2), (7, .gs 3)] 0 43, two n1 n2 ++ [.grow true 3 1 i64s, .grow false 3 1 i64s], []⟩
def dqK (N : ND) (i : Int) (xs ys zs ws : List Int) (v : Int) : RT := bif decide (0 ≤ i ∧ i < nI zs) then bif decide (i.toNat < zs.length) then some (.normal, [.i i, .l xs, .l ys, .l (zs.set i.toNat (wr .i64 (v + 1))), .l (N.diff ws ys)], []) else none else none
theorem dq_round2 (n1 n2 : Bool) (N : ND) (rd : Option Nat) (i : Int) (xs ys zs ws : List Int) : roundT Tryd.prog (orcD (hTabD N) plainL) noLoops 200 2 rd 52 dqLp2 (dqT n1 n2) (dqT n1 n2) [.i i, .l xs, .l ys, .l zs, .l ws] =
    bif N.ok ws && N.ok ys then bif !N.lt ws ys then bif N.okS ws ys then atI zs i (fun v => dqK N i xs ys zs ws v) else none else some (.exit 2, [.i i, .l xs, .l ys, .l zs, .l ws], []) else none := by cases n1 <;> cases n2 <;> kernel_rfl
theorem ok_of_lt {r : Nat} {K : Nat} (h : (D r).length ≤ K) (hK : K ≤ 1000000) : okD (D r) = true := okD_D (by omega)
theorem D_mono {m n : Nat} (h : m ≤ n) : (D m).length ≤ (D n).length := by
  rcases Nat.lt_or_ge (D n).length (D m).length with h1 | h1
  · have := len_lt h1; omega
  · exact h1
theorem dq_loop2 (n1 n2 : Bool) (rd : Option Nat) (xs : List Int) (n i : Nat) (hn : 1 ≤ n) (hl : (D n).length ≤ 999999) : ∀ x : Nat × List Int, (x.1 < 10 * n ∧ i < x.2.length ∧ x.2.length ≤ 1000000 ∧ 0 ≤ x.2.getD i 0 ∧ x.2.getD i 0 + ((x.1 / n : Nat) : Int) ≤ 9) →
    SimC Tryd.prog 2 rd (.loop dqLp2) ((dqT n1 n2).at [.i (i : Int), .l xs, .l (D n), .l x.2, .l (D x.1)]) (.exit 2) ((dqT n1 n2).at [.i (i : Int), .l xs, .l (D n), .l (x.2.set i (x.2.getD i 0 + ((x.1 / n : Nat) : Int))), .l (D (x.1 % n))]) := by
  refine loop_of_rounds (C := orcD (hTabD D0) plainL) (L := noLoops) (N := 200) (me := 52) (T := dqT n1 n2) (T' := dqT n1 n2) (orcD_ok hTabD_ok plainL_ok) mixed noLoops_ok (by cases n1 <;> cases n2 <;> kernel_rfl) (by cases n1 <;> cases n2 <;> kernel_rfl) (X := Nat × List Int)
    (fun x => [.i (i : Int), .l xs, .l (D n), .l x.2, .l (D x.1)]) (fun x => x.1 < 10 * n ∧ i < x.2.length ∧ x.2.length ≤ 1000000 ∧ 0 ≤ x.2.getD i 0 ∧ x.2.getD i 0 + ((x.1 / n : Nat) : Int) ≤ 9) (fun x => x.1)
    (fun x => (.exit 2, [.i (i : Int), .l xs, .l (D n), .l (x.2.set i (x.2.getD i 0 + ((x.1 / n : Nat) : Int))), .l (D (x.1 % n))])) ?_
  rintro ⟨r, zs⟩ ⟨hr, hi, hz, h0, h9⟩
  dsimp only at hr hi hz h0 h9 ⊢
  have h := dq_round2 n1 n2 D0 rd i xs (D n) zs (D r)
  have hlen : (D r).length ≤ (D n).length + 1 := by
    refine D_len_lt ?_
    have := D_lt_pow n
    rw [Nat.pow_succ]; omega
  have k1 : D0.ok (D r) = true := ok_of_lt (r := r) (K := 1000000) (by omega) (by omega)
  have k2 : D0.ok (D n) = true := ok_of_lt (r := n) (K := 1000000) (by omega) (by omega)
  have k3 : D0.lt (D r) (D n) = decide (r < n) := by
    rw [show D0.lt = ltD from rfl]
    unfold ltD
    rw [val_D, val_D, Bool.eq_iff_iff, decide_eq_true_eq, decide_eq_true_eq]; omega
  rw [k1, k2, k3, Bool.and_self, cond_true] at h
  rcases Nat.lt_or_ge r n with hlt | hge
  · rw [decide_eq_true hlt, Bool.not_true, cond_false] at h
    rw [Nat.div_eq_of_lt hlt, Nat.mod_eq_of_lt hlt]
    have hs : zs.set i (zs.getD i 0 + ((0 : Nat) : Int)) = zs := by
      rw [show zs.getD i 0 + ((0 : Nat) : Int) = zs[i] by rw [List.getD_eq_getElem?_getD, List.getElem?_eq_getElem hi]; simp]
      exact List.set_getElem_self hi
    rw [hs]
    exact ⟨_, _, _, h, codes0, .inr ⟨by simp, rfl⟩⟩
  · have k4 : D0.okS (D r) (D n) = true := by
      rw [show D0.okS = sbC from rfl]
      unfold sbC
      rw [show okD (D r) = true from k1, show okD (D n) = true from k2, val_D, val_D, decide_eq_true (by omega)]; rfl
    have k5 : D0.diff (D r) (D n) = D (r - n) := by
      rw [show D0.diff = diffD from rfl]
      unfold diffD
      rw [val_D, val_D, show ((r : Int) - (n : Int)).toNat = r - n by omega]
    have hq : (r - n) / n + 1 = r / n := (Nat.div_eq_sub_div (by omega) hge).symm
    have hq0 := Int.natCast_nonneg (r / n)
    have hq1 := Int.natCast_nonneg ((r - n) / n)
    have hq2 : (((r - n) / n : Nat) : Int) + 1 = ((r / n : Nat) : Int) := by rw [← hq]; rfl
    have hm : (r - n) % n = r % n := (Nat.mod_eq_sub_mod hge).symm
    rw [decide_eq_false (by omega), Bool.not_false, cond_true, k4, cond_true, atI_eq (getD_some hi)] at h
    unfold dqK at h
    have hw : wr .i64 (zs.getD i 0 + 1) = zs.getD i 0 + 1 := wr64 (by omega) (by omega)
    rw [nI_eq, decide_eq_true (show 0 ≤ (i : Int) ∧ (i : Int) < (zs.length : Int) by omega), cond_true, show ((i : Int)).toNat = i from rfl, decide_eq_true hi, cond_true, hw, k5] at h
    have hg : (zs.set i (zs.getD i 0 + 1)).getD i 0 = zs.getD i 0 + 1 := by
      rw [List.getD_eq_getElem?_getD, List.getElem?_set_self hi]; rfl
    refine ⟨_, _, _, h, codes0, .inl ⟨rfl, (r - n, zs.set i (zs.getD i 0 + 1)), rfl, ⟨by dsimp only; omega, by dsimp only; rw [List.length_set]; exact hi, by dsimp only; rw [List.length_set]; exact hz, by dsimp only; rw [hg]; omega, by dsimp only; rw [hg]; omega⟩, by dsimp only; omega, ?_⟩⟩
    dsimp only
    rw [hg, hm, List.set_set, show zs.getD i 0 + 1 + (((r - n) / n : Nat) : Int) = zs.getD i 0 + ((r / n : Nat) : Int) by rw [← hq2]; omega]
def dqC (i : Int) (ys zs ws : List Int) : Bool := decide (0 ≤ i ∧ i < nI zs ∧ zs.getD i.toNat 0 = 0 ∧ zs.length ≤ 1000000) && (isD ws && (isD ys && decide (ys.length ≤ 999999 ∧ 1 ≤ val ys ∧ val ws < 10 * val ys)))
def dqTree (n1 n2 : Bool) : List PV → Fin
  | [.i i, .l xs, .l ys, .l zs, .l ws] => .br (dqC i ys zs ws) (.leaf (.exit 2) ((dqT n1 n2).at [.i i, .l xs, .l ys, .l (zs.set i.toNat (val ws / val ys)), .l (DD (val ws % val ys))])) .no
  | _ => .no
noncomputable def dqL2 (n1 n2 : Bool) : Loops := sums (fun n => match n with | 7 => some (lsumF 2 (dqT n1 n2) dqLp2 (dqTree n1 n2)) | _ => none)
theorem dqL2_ok (n1 n2 : Bool) : loopsOk Tryd.prog (dqL2 n1 n2) := by
  intro n g hg
  simp only [dqL2, sums] at hg
  split at hg
  · cases hg
    refine lsumF_ok (by cases n1 <;> cases n2 <;> kernel_rfl) (fun rd ps e1 st1 hq => ?_)
    unfold dqTree at hq
    split at hq
    · rename_i i xs ys zs ws
      simp only [Fin.pick] at hq
      cases hc : dqC i ys zs ws with
      | false => rw [hc] at hq; cases hq
      | true =>
        rw [hc, cond_true] at hq
        cases hq
        simp only [dqC, Bool.and_eq_true, decide_eq_true_eq] at hc
        obtain ⟨⟨h0, h1, h2, h3⟩, hw, hy, h4, h5, h6⟩ := hc
        obtain ⟨r, rfl⟩ := isD_eq hw
        obtain ⟨n, rfl⟩ := isD_eq hy
        rw [val_D] at h5 h6
        rw [val_D] at h6
        rw [nI_eq] at h1
        obtain ⟨k, rfl⟩ : ∃ k : Nat, i = k := ⟨i.toNat, by omega⟩
        rw [show ((k : Int)).toNat = k from rfl] at h2 ⊢
        have hq9 : r / n < 10 := (Nat.div_lt_iff_lt_mul (by omega)).2 (by omega)
        have := dq_loop2 n1 n2 rd xs n k (by omega) h4 (r, zs) ⟨by dsimp only; omega, by dsimp only; omega, h3, by dsimp only; omega, by dsimp only; omega⟩
        dsimp only at this
        rw [h2, Int.zero_add] at this
        rw [val_D, val_D]
        exact this
    · cases hq
  · cases hg
/-- The rest behind one digit more. -/
def dqW (v : Int) (ws : List Int) : List Int := List.take (tz ([v] ++ ws)).length ([v] ++ ws)
def dqN (i : Int) (xs ys zs ws : List Int) : RT := bif dqC i ys zs ws then some (.normal, [.i (wr .i64 (i - 1)), .l xs, .l ys, .l (zs.set i.toNat (val ws / val ys)), .l (DD (val ws % val ys))], []) else none
theorem dq_round1 (n1 n2 : Bool) (N : ND) (rd : Option Nat) (i : Int) (xs ys zs ws : List Int) : roundT Tryd.prog (orcD (hTabD N) plainL) (dqL2 n1 n2) 200 2 rd 52 dqLp1 (dqT n1 n2) (dqX n1 n2) [.i i, .l xs, .l ys, .l zs, .l ws] =
    bif decide (0 ≤ i) then atI xs i (fun v => bif fitL ([v] ++ ws) then bif decide (([v] ++ ws).length ≤ 9223372036854775807) then cond (codesB [(dqLp2, dqLp2)]) (dqN i xs ys zs (dqW v ws)) none else none else none) else some (.exit 0, [.l xs, .l ys, .l zs, .l ws], []) := by cases n1 <;> cases n2 <;> kernel_rfl
end Go.Proofs.YthpdeiolhahobaaDoor

/- Chapter 2, the reference: div, for every two lists of digits. -/
namespace Go.Proofs.YthpdeiolhahobaaDoor
open Go Go.Eng
/-- The quotient's digits from one on. -/
def qL (m n L : Nat) (k : Nat) : List Int := (List.range' k (L - k)).map fun j => ((m / 10 ^ j / n % 10 : Nat) : Int)
theorem qL_step {m n L k : Nat} (h : k < L) : qL m n L k = ((m / 10 ^ k / n % 10 : Nat) : Int) :: qL m n L (k + 1) := by
  unfold qL
  rw [show L - k = (L - (k + 1)) + 1 by omega, List.range'_succ]; rfl
theorem qL_end (m n L : Nat) : qL m n L L = [] := by unfold qL; rw [Nat.sub_self]; rfl
theorem qL_len {m n L k : Nat} : (qL m n L k).length = L - k := by unfold qL; simp
theorem qL_dig {m n L k : Nat} : dig (qL m n L k) = true := by
  unfold dig qL
  rw [List.all_eq_true]
  intro d hd
  obtain ⟨j, _, rfl⟩ := List.mem_map.1 hd
  rw [decide_eq_true_eq]; omega
theorem div_step (A n : Nat) : A / n = 10 * (A / 10 / n) + A / n % 10 := by
  rw [Nat.div_div_eq_div_mul, Nat.mul_comm 10 n, ← Nat.div_div_eq_div_mul]; omega
theorem qL_val {m n L : Nat} (hL : m < 10 ^ L) : ∀ d k : Nat, k + d = L → val (qL m n L k) = ((m / 10 ^ k / n : Nat) : Int)
  | 0, k, h => by
    obtain rfl : k = L := by omega
    rw [qL_end, Nat.div_eq_of_lt hL, Nat.zero_div]; rfl
  | d + 1, k, h => by
    rw [qL_step (by omega)]
    simp only [val]
    rw [qL_val hL d (k + 1) (by omega)]
    have := div_step (m / 10 ^ k) n
    rw [Nat.pow_succ, ← Nat.div_div_eq_div_mul]
    omega
theorem dq_loop1 (n1 n2 : Bool) (rd : Option Nat) (m n : Nat) (hn : 1 ≤ n) (hln : (D n).length ≤ 999999) (hlm : (D m).length ≤ 999999) : ∀ k : Nat, k ≤ (D m).length →
    SimC Tryd.prog 2 rd (.loop dqLp1) ((dqT n1 n2).at [.i ((k : Int) - 1), .l (D m), .l (D n), .l (List.replicate k 0 ++ qL m n (D m).length k), .l (D (m / 10 ^ k % n))]) (.exit 0)
      ((dqX n1 n2).at [.l (D m), .l (D n), .l (qL m n (D m).length 0), .l (D (m % n))]) := by
  refine loop_of_rounds (C := orcD (hTabD D0) plainL) (L := dqL2 n1 n2) (N := 200) (me := 52) (T := dqT n1 n2) (T' := dqX n1 n2) (orcD_ok hTabD_ok plainL_ok) mixed (dqL2_ok n1 n2) (by cases n1 <;> cases n2 <;> kernel_rfl) (by cases n1 <;> cases n2 <;> kernel_rfl) (X := Nat)
    (fun k => [.i ((k : Int) - 1), .l (D m), .l (D n), .l (List.replicate k 0 ++ qL m n (D m).length k), .l (D (m / 10 ^ k % n))]) (fun k => k ≤ (D m).length) (fun k => k) (fun _ => (.exit 0, [.l (D m), .l (D n), .l (qL m n (D m).length 0), .l (D (m % n))])) ?_
  intro k hk
  have h := dq_round1 n1 n2 D0 rd ((k : Int) - 1) (D m) (D n) (List.replicate k 0 ++ qL m n (D m).length k) (D (m / 10 ^ k % n))
  cases k with
  | zero =>
    rw [decide_eq_false (by omega), cond_false] at h
    rw [Nat.pow_zero, Nat.div_one] at h ⊢
    exact ⟨_, _, _, h, codes0, .inr ⟨by simp, rfl⟩⟩
  | succ k =>
    have hi : (((k + 1 : Nat) : Int) - 1) = (k : Int) := by omega
    have hg := D_get (m := m) (i := k)
    rw [if_pos (by omega)] at hg
    have hr : m / 10 ^ (k + 1) % n < n := Nat.mod_lt _ (by omega)
    have hlr : (D (m / 10 ^ (k + 1) % n)).length ≤ (D n).length := D_mono (Nat.le_of_lt hr)
    have hB : m / 10 ^ (k + 1) = m / 10 ^ k / 10 := by rw [Nat.pow_succ, ← Nat.div_div_eq_div_mul]
    have hws : dqW ((m / 10 ^ k % 10 : Nat) : Int) (D (m / 10 ^ (k + 1) % n)) = D (10 * (m / 10 ^ (k + 1) % n) + m / 10 ^ k % 10) := by
      unfold dqW
      rw [← tz_prefix, List.singleton_append, tz_val (by rw [dig_cons]; exact ⟨by omega, dig_D _⟩)]
      simp only [val]
      rw [val_D]
      rw [show (((m / 10 ^ k % 10 : Nat) : Int) + 10 * ((m / 10 ^ (k + 1) % n : Nat) : Int)).toNat = 10 * (m / 10 ^ (k + 1) % n) + m / 10 ^ k % 10 by omega]
    have hzl : (List.replicate (k + 1) (0 : Int) ++ qL m n (D m).length (k + 1)).length = (D m).length := by rw [List.length_append, List.length_replicate, qL_len]; omega
    have hz0 : (List.replicate (k + 1) (0 : Int) ++ qL m n (D m).length (k + 1)).getD k 0 = 0 := by
      rw [List.getD_eq_getElem?_getD, List.getElem?_append_left (by rw [List.length_replicate]; omega), List.getElem?_replicate, if_pos (by omega)]; rfl
    have hC : dqC (k : Int) (D n) (List.replicate (k + 1) 0 ++ qL m n (D m).length (k + 1)) (D (10 * (m / 10 ^ (k + 1) % n) + m / 10 ^ k % 10)) = true := by
      unfold dqC
      rw [isD_D, isD_D, val_D, val_D, nI_eq, hzl, show ((k : Int)).toNat = k from rfl, hz0, decide_eq_true (show 0 ≤ (k : Int) ∧ (k : Int) < ((D m).length : Int) ∧ (0 : Int) = 0 ∧ (D m).length ≤ 1000000 by omega),
        decide_eq_true (show (D n).length ≤ 999999 ∧ (1 : Int) ≤ (n : Int) ∧ ((10 * (m / 10 ^ (k + 1) % n) + m / 10 ^ k % 10 : Nat) : Int) < 10 * (n : Int) by omega)]; rfl
    rw [hi, decide_eq_true (show 0 ≤ (k : Int) by omega), cond_true, atI_eq hg, hws, fitL_true (by rw [List.length_append, List.length_singleton]; omega), cond_true, decide_eq_true (by rw [List.length_append, List.length_singleton]; omega), cond_true, codesS, cond_true] at h
    unfold dqN at h
    rw [hC, cond_true, wr64 (by omega) (by omega), show ((k : Int)).toNat = k from rfl, val_D, val_D] at h
    -- long division, plainly
    generalize hA : m / 10 ^ k = A at *
    have hmod := Nat.div_add_mod (A / 10) n
    have key : A = n * (10 * (A / 10 / n)) + (10 * (A / 10 % n) + A % 10) := by
      have e1 : n * (10 * (A / 10 / n)) = 10 * (n * (A / 10 / n)) := by rw [← Nat.mul_assoc, Nat.mul_comm n 10, Nat.mul_assoc]
      omega
    have hq : (10 * (m / 10 ^ (k + 1) % n) + A % 10) / n = A / n % 10 := by
      have h1 : A / n = 10 * (A / 10 / n) + (10 * (A / 10 % n) + A % 10) / n := by
        rw [key]
        conv => lhs; rw [Nat.mul_add_div (by omega)]
        rw [← key]
      have h2 : (10 * (A / 10 % n) + A % 10) / n < 10 := (Nat.div_lt_iff_lt_mul (by omega)).2 (by rw [← hB]; omega)
      rw [hB, h1, Nat.mul_add_mod, Nat.mod_eq_of_lt h2]
    have hm' : (10 * (m / 10 ^ (k + 1) % n) + A % 10) % n = A % n := by
      rw [hB]
      conv => rhs; rw [key]
      rw [Nat.mul_add_mod]
    have hset : (List.replicate (k + 1) (0 : Int) ++ qL m n (D m).length (k + 1)).set k ((10 * (m / 10 ^ (k + 1) % n) + A % 10 : Nat) / (n : Int)) = List.replicate k 0 ++ qL m n (D m).length k := by
      rw [show ((10 * (m / 10 ^ (k + 1) % n) + A % 10 : Nat) : Int) / (n : Int) = (((10 * (m / 10 ^ (k + 1) % n) + A % 10) / n : Nat) : Int) from rfl, hq]
      rw [qL_step (show k < (D m).length by omega), hA, List.replicate_succ', List.append_assoc, List.set_append_right _ _ (by rw [List.length_replicate]; exact Nat.le_refl _), List.length_replicate, Nat.sub_self]
      rfl
    have hrest : DD (((10 * (m / 10 ^ (k + 1) % n) + A % 10 : Nat) : Int) % (n : Int)) = D (A % n) := by
      rw [show ((10 * (m / 10 ^ (k + 1) % n) + A % 10 : Nat) : Int) % (n : Int) = (((10 * (m / 10 ^ (k + 1) % n) + A % 10) % n : Nat) : Int) from rfl, hm']
      rfl
    rw [hset, hrest] at h
    rw [hi]
    refine ⟨_, _, _, h, codes0, .inl ⟨rfl, k, ?_, by omega, by omega, rfl⟩⟩
    rw [hA]
end Go.Proofs.YthpdeiolhahobaaDoor

/- Chapter 2, the reference: div's contract. -/
namespace Go.Proofs.YthpdeiolhahobaaDoor
open Go Go.Eng
def quoF (xs ys : List Int) : List Int := qL (val xs).toNat (val ys).toNat xs.length 0
def quoD (xs ys : List Int) : List Int := DD (val xs / val ys)
def remD (xs ys : List Int) : List Int := DD (val xs % val ys)
def dvC (xs ys : List Int) : Bool := isD xs && (isD ys && decide (xs.length ≤ 999999 ∧ ys.length ≤ 999999 ∧ 1 ≤ val ys))
noncomputable def dqTree1 (n1 n2 : Bool) : List PV → Fin
  | [.i i, .l xs, .l ys, .l zs, .l ws] => .br (decide (i = nI xs - 1 ∧ ws.length = 0) && (pB (zs = List.replicate xs.length 0) && dvC xs ys)) (.leaf (.exit 0) ((dqX n1 n2).at [.l xs, .l ys, .l (quoF xs ys), .l (remD xs ys)])) .no
  | _ => .no
noncomputable def dqL (n1 n2 : Bool) : Loops := sums (fun n => match n with | 4 => some (lsumF 2 (dqT n1 n2) dqLp1 (dqTree1 n1 n2)) | _ => none)
theorem dvC_eq {xs ys : List Int} (h : dvC xs ys = true) : ∃ m n : Nat, xs = D m ∧ ys = D n ∧ (D m).length ≤ 999999 ∧ (D n).length ≤ 999999 ∧ 1 ≤ n := by
  simp only [dvC, Bool.and_eq_true, decide_eq_true_eq] at h
  obtain ⟨hx, hy, h1, h2, h3⟩ := h
  obtain ⟨m, rfl⟩ := isD_eq hx
  obtain ⟨n, rfl⟩ := isD_eq hy
  rw [val_D] at h3
  exact ⟨m, n, rfl, rfl, h1, h2, by omega⟩
theorem dqL_ok (n1 n2 : Bool) : loopsOk Tryd.prog (dqL n1 n2) := by
  intro n g hg
  simp only [dqL, sums] at hg
  split at hg
  · cases hg
    refine lsumF_ok (by cases n1 <;> cases n2 <;> kernel_rfl) (fun rd ps e1 st1 hq => ?_)
    unfold dqTree1 at hq
    split at hq
    · rename_i i xs ys zs ws
      simp only [Fin.pick] at hq
      cases hc : (decide (i = nI xs - 1 ∧ ws.length = 0) && (pB (zs = List.replicate xs.length 0) && dvC xs ys)) with
      | false => rw [hc] at hq; cases hq
      | true =>
        rw [hc, cond_true] at hq
        cases hq
        simp only [Bool.and_eq_true, decide_eq_true_eq, pB_iff] at hc
        obtain ⟨⟨rfl, hw⟩, rfl, hC⟩ := hc
        have hw := List.eq_nil_of_length_eq_zero hw
        subst hw
        obtain ⟨m, n, rfl, rfl, h1, h2, h3⟩ := dvC_eq hC
        have := dq_loop1 n1 n2 rd m n h3 h2 h1 (D m).length (Nat.le_refl _)
        have h0 : m / 10 ^ (D m).length % n = 0 := by rw [Nat.div_eq_of_lt (D_lt_pow m), Nat.zero_mod]
        rw [qL_end, List.append_nil, h0, D_zero] at this
        unfold quoF remD
        rw [val_D, val_D, nI_eq]
        exact this
    · cases hq
  · cases hg
theorem div_eval52 (n1 n2 : Bool) (xs ys : List Int) : evalFn Tryd.prog (orcD (hTabD D0) plainL) (dqL n1 n2) 200 52 Tryd.f52 [.gs 0, .gs 1] [.rs n1 1 (.ints .i64 xs), .rs n2 1 (.ints .i64 ys)] keepB =
    bif decide (0 ≤ nI xs ∧ nI xs ≤ nI xs ∧ nI xs * 9 ≤ 140737488355328) then cond (codesB [(dqLp1, dqLp1)]) (bif decide (wr .i64 (nI xs - 1) = nI xs - 1 ∧ 0 = 0) && (pB (List.replicate (nI xs).toNat (0 : Int) = List.replicate xs.length 0) && dvC xs ys) then
      bif decide ((quoF xs ys).length ≤ 9223372036854775807) then some (.tuple [.gs 4, .gs 3], [.rs n1 1 (.ints .i64 xs), .rs n2 1 (.ints .i64 ys), .dead, .grow false 3 1 (.ints .i64 (remD xs ys)), .grow true 3 1 (.ints .i64 (List.take (tz (quoF xs ys)).length (quoF xs ys)))]) else none else none) none else none := by cases n1 <;> cases n2 <;> kernel_rfl
theorem div52_fn (n1 n2 : Bool) {xs ys : List Int} (h : dvC xs ys = true) : FnOK Tryd.prog 52 [.gs 0, .gs 1] [.rs n1 1 (.ints .i64 xs), .rs n2 1 (.ints .i64 ys)] (.tuple [.gs 4, .gs 3])
    ([.rs n1 1 (.ints .i64 xs), .rs n2 1 (.ints .i64 ys)] ++ [.dead, .grow false 3 1 (.ints .i64 (remD xs ys)), .grow true 3 1 (.ints .i64 (quoD xs ys))]) := by
  have he := div_eval52 n1 n2 xs ys
  obtain ⟨m, n, rfl, rfl, h1, h2, h3⟩ := dvC_eq h
  have hl : (quoF (D m) (D n)).length = (D m).length := by unfold quoF; rw [qL_len, Nat.sub_zero]
  have hz : List.take (tz (quoF (D m) (D n))).length (quoF (D m) (D n)) = quoD (D m) (D n) := by
    rw [← tz_prefix]
    unfold quoF quoD
    rw [tz_val qL_dig, val_D, val_D, qL_val (by rw [show ((m : Int)).toNat = m from rfl]; exact D_lt_pow m) (D m).length 0 (by omega), Nat.pow_zero, Nat.div_one]
    rfl
  rw [nI_eq, decide_eq_true (by omega), cond_true, codesS, cond_true, wr64 (by omega) (by omega), decide_eq_true ⟨rfl, rfl⟩, pB_iff.2 (by rw [show (((D m).length : Nat) : Int).toNat = (D m).length from rfl]), h, hl, decide_eq_true (by omega), hz] at he
  simp only [Bool.and_self, cond_true] at he
  obtain ⟨v1, h1, hk, hok⟩ := evalFn_ok (orcD_ok hTabD_ok plainL_ok) mixed Tryd.func52 (dqL_ok n1 n2) he
  simp only [keepB, Option.some.injEq, Prod.mk.injEq] at hk
  obtain ⟨rfl, rfl⟩ := hk
  exact hok
end Go.Proofs.YthpdeiolhahobaaDoor

/- Chapter 2, the reference: parts. -/
namespace Go.Proofs.YthpdeiolhahobaaDoor
open Go Go.Eng
structure NE where
  n : ND
  quo : List Int → List Int → List Int
  rem : List Int → List Int → List Int
  okQ : List Int → List Int → Bool
  most : List Int
  dg : Int → Int → Int → Int → List Int
  inn : Int → Int → Int → Int → Bool
def gDiv52 (N : NE) : List V → List Blk → Option (Bool × V × List Blk)
  | [.gs 0, .gs 1], [.rs _ 1 (.ints .i64 xs), .rs _ 1 (.ints .i64 ys)] => some (N.okQ xs ys, .tuple [.gs 4, .gs 3], [.dead, .grow false 3 1 (.ints .i64 (N.rem xs ys)), .grow true 3 1 (.ints .i64 (N.quo xs ys))])
  | _, _ => none
def gMost (N : NE) : List V → List Blk → Option (Bool × V × List Blk)
  | [], [] => some (true, .gs 0, [.grow true 3 1 (.ints .i64 N.most)])
  | _, _ => none
def gDigits (N : NE) : List V → List Blk → Option (Bool × V × List Blk)
  | [.agg [.int .u32 a, .int .u32 b, .int .u32 c, .int .u32 d]], [] => some (N.inn a b c d, .gs 0, [.grow false 3 1 (.ints .i64 (N.dg a b c d))])
  | _, _ => none
def hTabE (N : NE) : HTab := addH 52 (gDiv52 N) (addH 71 (gMost N) (addH 50 (gDigits N) (hTabD N.n)))
def domE : FuncId → Bool := fun f => Nat.beq f 52 || (Nat.beq f 71 || (Nat.beq f 50 || domD f))
noncomputable abbrev orcE (HT : HTab) (LL : FuncId → Loops) : Oracle := inl Tryd.prog ftab tabA LL 200 never domE (orElse domT (resOrc rTab) (hOrcP nrI HT)) 20
theorem orcE_ok {HT : HTab} (hT : HTabOk Tryd.prog HT) {LL : FuncId → Loops} (hL : ∀ f, loopsOk Tryd.prog (LL f)) : OracleOk Tryd.prog (orcE HT LL) := inl_ok (orElse_ok (resOrc_ok rTab_ok) (hOrcP_ok hT)) ftab_ok tabA_ok hL mixed 20
def dgD (a b c d : Int) : List Int := DD (nval a b c d)
def E0 : NE := ⟨D0, quoD, remD, dvC, D 340282366920938463463374607431768211456, dgD, inN⟩
theorem hTabE_ok : HTabOk Tryd.prog (hTabE E0) := by
  refine addH_ok ?_ (addH_ok ?_ (addH_ok ?_ hTabD_ok))
  · intro args h c v nb hq hc
    unfold gDiv52 at hq
    split at hq
    · rename_i n1 xs n2 ys
      cases hq; exact ⟨.of Tryd.func52 (by kernel_rfl), div52_fn n1 n2 hc⟩
    · cases hq
  · intro args h c v nb hq hc
    unfold gMost at hq
    split at hq
    · cases hq; exact ⟨.of Tryd.func71 (by kernel_rfl), most_fn⟩
    · cases hq
  · intro args h c v nb hq hc
    unfold gDigits at hq
    split at hq
    · cases hq; exact ⟨.of Tryd.func50 (by kernel_rfl), digits_fn hc⟩
    · cases hq
def keepV (v : V) (_ : List Blk) : Option V := some v
def ptC {α : Type} (N : NE) (a : List Int) (K : Option α) : Option α := bif N.okQ a (N.n.D 4294967296) then bif N.n.okV (N.rem a (N.n.D 4294967296)) then K else none else none
def ptQ (N : NE) (a : List Int) : List Int := N.quo a (N.n.D 4294967296)
def ptV (N : NE) (a : List Int) : V := .int .u32 (wr .u32 (N.n.val (N.rem a (N.n.D 4294967296))))
theorem parts_eval (n1 : Bool) (N : NE) (xs : List Int) : evalFn Tryd.prog (orcE (hTabE N) plainL) noLoops 200 47 Tryd.f47 [.gs 0] [.rs n1 1 (.ints .i64 xs)] keepV =
    bif N.n.ok xs && N.n.ok N.most then bif !N.n.lt xs N.most then some (.tuple [nW 0, .int .i64 3]) else ptC N xs (ptC N (ptQ N xs) (ptC N (ptQ N (ptQ N xs)) (ptC N (ptQ N (ptQ N (ptQ N xs)))
      (some (.tuple [.agg [ptV N xs, ptV N (ptQ N xs), ptV N (ptQ N (ptQ N xs)), ptV N (ptQ N (ptQ N (ptQ N xs)))], .int .i64 0]))))) else none := by cases n1 <;> kernel_rfl
def ptZ (z : Int) : Int := bif decide (z < 340282366920938463463374607431768211456) then z else 0
def ptE (z : Int) : Int := bif decide (z < 340282366920938463463374607431768211456) then 0 else 3
theorem pt_step {m : Nat} (hl : (D m).length ≤ 999999) : (∀ {α : Type} (K : Option α), ptC E0 (D m) K = K) ∧ ptQ E0 (D m) = D (m / 4294967296) ∧ ptV E0 (D m) = .int .u32 ((m % 4294967296 : Nat) : Int) := by
  have hDw : E0.n.D 4294967296 = D 4294967296 := rfl
  have hwl : (D 4294967296).length ≤ 10 := D_len_lt (by decide)
  have hr : E0.rem (D m) (D 4294967296) = D (m % 4294967296) := by
    rw [show E0.rem = remD from rfl]
    unfold remD
    rw [val_D, val_D]; rfl
  refine ⟨fun {α} K => ?_, ?_, ?_⟩
  · unfold ptC
    have k1 : E0.okQ (D m) (D 4294967296) = true := by
      rw [show E0.okQ = dvC from rfl]
      unfold dvC
      rw [isD_D, isD_D, val_D, decide_eq_true ⟨hl, by omega, by omega⟩]; rfl
    have k2 : E0.n.okV (D (m % 4294967296)) = true := by
      rw [show E0.n.okV = okVD from rfl]
      unfold okVD
      rw [isD_D, val_D, decide_eq_true (by omega)]; rfl
    rw [hDw, k1, hr, k2]; rfl
  · unfold ptQ
    rw [hDw, show E0.quo = quoD from rfl]
    unfold quoD
    rw [val_D, val_D]; rfl
  · unfold ptV
    rw [hDw, hr, show E0.n.val = val from rfl, val_D, wr32 (by omega) (by omega)]
theorem one_ro {n1 : Bool} {xs : List Int} : ∀ (b : Nat) blk, ([.rs n1 1 (.ints .i64 xs)] : List Blk)[b]? = some blk → blk.mine = false := by
  intro b blk hb
  match b, hb with
  | 0, hb => cases hb; rfl
  | _ + 1, hb => simp at hb
theorem parts_fn (n1 : Bool) {xs : List Int} (h : (isD xs && decide (xs.length ≤ 999999)) = true) : FnOK Tryd.prog 47 [.gs 0] [.rs n1 1 (.ints .i64 xs)] (.tuple [nW (ptZ (val xs)), .int .i64 (ptE (val xs))]) ([.rs n1 1 (.ints .i64 xs)] ++ []) := by
  have he := parts_eval n1 E0 xs
  simp only [Bool.and_eq_true, decide_eq_true_eq] at h
  obtain ⟨m, rfl⟩ := isD_eq h.1
  have hl := h.2
  have k1 : E0.n.ok (D m) = true := okD_D (m := m) (by omega)
  have k2 : E0.n.ok E0.most = true := len_D (n := 340282366920938463463374607431768211456) (K := 39) (by decide) (by decide)
  have k3 : E0.n.lt (D m) E0.most = decide ((m : Int) < 340282366920938463463374607431768211456) := by
    rw [show E0.n.lt = ltD from rfl, show E0.most = D 340282366920938463463374607431768211456 from rfl]
    unfold ltD
    rw [val_D, val_D]; rfl
  have key : evalFn Tryd.prog (orcE (hTabE E0) plainL) noLoops 200 47 Tryd.f47 [.gs 0] [.rs n1 1 (.ints .i64 (D m))] keepV = some (.tuple [nW (ptZ (m : Int)), .int .i64 (ptE (m : Int))]) := by
    rw [he, k1, k2, k3, Bool.and_self, cond_true]
    unfold ptZ ptE
    by_cases hlt : (m : Int) < 340282366920938463463374607431768211456
    · obtain ⟨a1, a2, a3⟩ := pt_step hl
      obtain ⟨b1, b2, b3⟩ := pt_step (m := m / 4294967296) (Nat.le_trans (D_mono (Nat.div_le_self _ _)) hl)
      obtain ⟨c1, c2, c3⟩ := pt_step (m := m / 4294967296 / 4294967296) (Nat.le_trans (D_mono (Nat.le_trans (Nat.div_le_self _ _) (Nat.div_le_self _ _))) hl)
      obtain ⟨d1, _, d3⟩ := pt_step (m := m / 4294967296 / 4294967296 / 4294967296) (Nat.le_trans (D_mono (Nat.le_trans (Nat.div_le_self _ _) (Nat.le_trans (Nat.div_le_self _ _) (Nat.div_le_self _ _)))) hl)
      rw [decide_eq_true hlt, Bool.not_true, cond_false, cond_true, cond_true, a1, a2, a3, b1, b2, b3, c1, c2, c3, d1, d3]
      unfold nW w0 w1 w2 w3
      rw [show ((m % 4294967296 : Nat) : Int) = (m : Int) % 4294967296 by omega, show ((m / 4294967296 % 4294967296 : Nat) : Int) = (m : Int) / 4294967296 % 4294967296 by omega, show ((m / 4294967296 / 4294967296 % 4294967296 : Nat) : Int) = (m : Int) / 18446744073709551616 % 4294967296 by omega, show ((m / 4294967296 / 4294967296 / 4294967296 % 4294967296 : Nat) : Int) = (m : Int) / 79228162514264337593543950336 % 4294967296 by omega]
    · rw [decide_eq_false hlt]; rfl
  obtain ⟨v1, h1, hk, hok⟩ := evalFn_ok (orcE_ok hTabE_ok plainL_ok) mixed Tryd.func47 noLoops_ok key
  simp only [keepV, Option.some.injEq] at hk
  subst hk
  rw [val_D, List.append_nil]
  exact hok.plain rfl one_ro
end Go.Proofs.YthpdeiolhahobaaDoor
