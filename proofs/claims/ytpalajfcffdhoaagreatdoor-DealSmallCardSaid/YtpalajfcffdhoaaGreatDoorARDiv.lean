/- Texts merged: ARDiv, Z1, Z2. -/
import Derived.Test.YtpalajfcffdhoaaGreatDoorAR14
import Derived.Test.YtpalajfcffdhoaaGreatDoorARMul
/- Chapter 2, the reference: Div and Gcd: the same results as nat's own. -/
namespace Go.Proofs.YtpalajfcffdhoaaGreatDoor.N2
open Go Go.Eng
theorem rdiv_eval (N : NE) (Z E : Int → Int) (ok : List Int → Bool) (vl : List Int → Int) (a b c d e f g h : Int) : evalFn Tryz.prog (orcQ (hTabZ N Z E ok vl)) noLoops 200 29 Tryz.f29 (nat2 a b c d e f g h) [] (fun v _ => some v) =
    bif N.inn e f g h then bif decide (nI (N.dg e f g h) = 0) then some (.tuple [nW 0, nW 0, .int .i64 2]) else
      bif N.inn a b c d then bif N.inn e f g h then bif N.okQ (N.dg a b c d) (N.dg e f g h) then bif ok (N.quo (N.dg a b c d) (N.dg e f g h)) then bif ok (N.rem (N.dg a b c d) (N.dg e f g h)) then
        some (.tuple [nW (Z (vl (N.quo (N.dg a b c d) (N.dg e f g h)))), nW (Z (vl (N.rem (N.dg a b c d) (N.dg e f g h)))), .int .i64 0]) else none else none else none else none else none else none := by kernel_rfl
theorem okQ_D {m n : Nat} (hm : m < 340282366920938463463374607431768211456) (hn : n < 340282366920938463463374607431768211456) (h1 : 1 ≤ n) : E0.okQ (D m) (D n) = true := by
  have a1 : (D m).length ≤ 39 := D_len_lt (Nat.lt_trans hm (by decide))
  have a2 : (D n).length ≤ 39 := D_len_lt (Nat.lt_trans hn (by decide))
  rw [show E0.okQ = dvC from rfl]
  unfold dvC
  rw [isD_D, isD_D, val_D, decide_eq_true ⟨by omega, by omega, by omega⟩]; rfl
theorem quo_D (m n : Nat) : E0.quo (D m) (D n) = D (m / n) := by
  rw [show E0.quo = quoD from rfl]
  unfold quoD
  rw [val_D, val_D]; rfl
theorem rem_D (m n : Nat) : E0.rem (D m) (D n) = D (m % n) := by
  rw [show E0.rem = remD from rfl]
  unfold remD
  rw [val_D, val_D]; rfl
theorem okP_D {m : Nat} (hm : m < 340282366920938463463374607431768211456) : okP (D m) = true := by
  have a1 : (D m).length ≤ 39 := D_len_lt (Nat.lt_trans hm (by decide))
  unfold okP
  rw [isD_D, decide_eq_true (by omega)]; rfl
theorem ptZ_lt {m : Nat} (hm : m < 340282366920938463463374607431768211456) : ptZ (m : Int) = (m : Int) := by
  unfold ptZ
  rw [decide_eq_true (by omega)]; rfl
theorem nI_zero {m : Nat} : decide (nI (D m) = 0) = decide (m = 0) := by
  rw [nI_eq, Bool.eq_iff_iff, decide_eq_true_eq, decide_eq_true_eq]
  constructor
  · intro h
    have : (D m).length = 0 := by omega
    have := List.eq_nil_of_length_eq_zero this
    have hv := val_D m
    rw [this] at hv
    simp only [val] at hv
    omega
  · rintro rfl; rfl
theorem rdiv_p {a b c d e f g h : Int} (hx : inN a b c d = true) (hy : inN e f g h = true) : FnPure Tryz.prog 29 (nat2 a b c d e f g h) (.tuple [nW (divZ (nval a b c d) (nval e f g h)), nW (remZ (nval a b c d) (nval e f g h)), .int .i64 (divE (nval e f g h))]) := by
  refine fnPure_of_eval (N := 200) (orcQ_ok hTabZ_ok) mixed Tryz.func29 (by kernel_rfl) noLoops_ok ?_ rfl rfl
  rw [rdiv_eval, show E0.inn = inN from rfl, hx, hy]
  obtain ⟨m, hm, em, lm, km⟩ := dg_nat hx
  obtain ⟨n, hn, en, ln, kn⟩ := dg_nat hy
  unfold divZ remZ divE
  rw [em, en, hm, hn, nI_zero]
  by_cases h0 : n = 0
  · subst h0
    rfl
  · have q1 : m / n < 340282366920938463463374607431768211456 := Nat.lt_of_le_of_lt (Nat.div_le_self m n) lm
    have q2 : m % n < 340282366920938463463374607431768211456 := Nat.lt_of_le_of_lt (Nat.mod_le m n) lm
    rw [decide_eq_false h0, decide_eq_false (show ¬ (n : Int) = 0 by omega), okQ_D lm ln (by omega), quo_D, rem_D, okP_D q1, okP_D q2, val_D, val_D, ptZ_lt q1, ptZ_lt q2]
    rfl
end Go.Proofs.YtpalajfcffdhoaaGreatDoor.N2

/- Chapter 6, the reference: others, cards: formulas over names. -/
namespace Go.Proofs.YtpalajfcffdhoaaGreatDoor
open Go Go.Eng Go.Deal
section
variable (E : EW)
noncomputable abbrev evO (a b c d s : Int) : Option V := evalFn Tryz.prog (orcW6 E) noLoops 100 30 Tryz.f30 [q4 a b c d, .int .i64 s] [] (fun v _ => some v)
theorem roth0_eval (a b c d : Int) : evO E a b c d 0 = bif E.n.u b then bif E.n.u c then bif E.n.u d then bif E.ofk 1 then
    wyS E (wr .i64 (wr .i64 (wr .i64 (0 + wlk E b) + wlk E c) + wlk E d)) (E.of 1) (wlk E b) fun n o => wyS E n o (wlk E c) fun n o => wyS E n o (wlk E d) fun _ o => some (E.n.nW o)
  else none else none else none else none := by kernel_rfl
theorem roth1_eval (a b c d : Int) : evO E a b c d 1 = bif E.n.u c then bif E.n.u d then bif E.ofk 1 then
    wyS E (wr .i64 (wr .i64 (0 + wlk E c) + wlk E d)) (E.of 1) (wlk E c) fun n o => wyS E n o (wlk E d) fun _ o => some (E.n.nW o)
  else none else none else none := by kernel_rfl
theorem roth2_eval (a b c d : Int) : evO E a b c d 2 = bif E.n.u d then bif E.ofk 1 then
    wyS E (wr .i64 (0 + wlk E d)) (E.of 1) (wlk E d) fun _ o => some (E.n.nW o)
  else none else none := by kernel_rfl
theorem roth3_eval (a b c d : Int) : evO E a b c d 3 = bif E.ofk 1 then some (E.n.nW (E.of 1)) else none := by kernel_rfl
end
section
variable (E : E7)
noncomputable def caLp : Code := loopOf 3 Tryz.f28
def gI : TB := .grow false 3 1 (.ints .i64)
def caT : Tm := ⟨mkS [(1, .ptr 0 0), (3, .gs 1), (4, .int .i64)] 0 18, [.own 23 u64s, gI], []⟩
def caX : Tm := ⟨mkS [(1, .ptr 0 0), (3, .gs 1)] 0 18, [.own 23 u64s, gI], []⟩
theorem ca_round (rd : Option Nat) (i a b c d : Int) (l : List Int) : roundT Tryz.prog (orcF E) noLoops 100 0 rd 28 caLp caT caX [.i i, .i a, .i b, .i c, .i d, .l l] =
    bif decide (i < 52) then bif E.hk a b c d i then bif decide (E.ho a b c d i = 0) then bif decide ((l ++ [i]).length * 9 ≤ 70368744177664) then
      some (.normal, [.i (wr .i64 (i + 1)), .i a, .i b, .i c, .i d, .l (l ++ [i])], []) else none else some (.normal, [.i (wr .i64 (i + 1)), .i a, .i b, .i c, .i d, .l l], []) else none
    else some (.exit 0, [.i a, .i b, .i c, .i d, .l l], []) := by kernel_rfl
end
end Go.Proofs.YtpalajfcffdhoaaGreatDoor

/- Chapter 6, the reference: others, cards: their contracts. -/
namespace Go.Proofs.YtpalajfcffdhoaaGreatDoor
open Go Go.Eng Go.Deal
def othI (s a b c d : Int) : Int := bif decide (s = 0) then o1 a b c d else bif decide (s = 1) then o2 a b c d else 1
theorem eWn1 : eW.ofk 1 = true := ofK_n (n := 1) (by decide)
theorem eWo1 : eW.of 1 = ((1 : Nat) : Int) := ofZ_n 1
theorem eWu_n {x : Nat} (hx : x < 18446744073709551616) : eW.n.u (x : Int) = true := by rw [eWu]; exact in64_iff.2 ⟨by omega, by omega⟩
theorem lk_le (x : Nat) : lk x ≤ 13 := by unfold lk; omega
theorem wr0n {n : Nat} (h : n ≤ 1000) : wr .i64 (0 + (n : Int)) = (n : Int) := by rw [Int.zero_add]; exact wr64 (by omega) (by omega)
theorem wrnn {m n : Nat} (h : m + n ≤ 1000) : wr .i64 ((m : Int) + (n : Int)) = ((m + n : Nat) : Int) := by rw [wr64 (by omega) (by omega)]; omega
theorem bcp {n : Nat} (k e : Nat) (h : n ≤ e) : bc n k ≤ 2 ^ e := Nat.le_trans (bc_le _ _) (Nat.pow_le_pow_right (by decide) h)
theorem p1 {x : Nat} (h : x ≤ 2 ^ 100) : x < 340282366920938463463374607431768211456 := Nat.lt_of_le_of_lt h (by decide)
theorem roth_p {a b c d s : Int} (h : in4 a b c d = true) (hp : parB a b c d = true) (hs : s = 0 ∨ s = 1 ∨ s = 2 ∨ s = 3) : FnPure Tryz.prog 30 [q4 a b c d, .int .i64 s] (n6.nW (othI s a b c d)) := by
  obtain ⟨a, b, c, d, rfl, rfl, rfl, rfl, ha, hb, hc, hd⟩ := in4_nat h
  have P := parB_iff.1 hp
  have l2 := lk_le b; have l3 := lk_le c; have l4 := lk_le d
  refine fnPure_of_eval (N := 100) orcW6_ok mixed Tryz.func30 (by kernel_rfl) noLoops_ok ?_ rfl rfl
  rcases hs with rfl | rfl | rfl | rfl
  · refine (roth0_eval eW _ _ _ _).trans ?_
    have m1 : 1 * bc (lk b + (lk c + lk d)) (lk b) ≤ 2 ^ 39 := by rw [Nat.one_mul]; exact bcp _ _ (by omega)
    have m2 : 1 * bc (lk b + (lk c + lk d)) (lk b) * bc (lk c + lk d) (lk c) ≤ 2 ^ 65 := Nat.le_trans (Nat.mul_le_mul m1 (bcp _ 26 (by omega))) (by decide)
    rw [eWu_n hb, eWu_n hc, eWu_n hd, eWn1, cond_true, cond_true, cond_true, cond_true, wlk_n P.cb, wlk_n P.cc, wlk_n P.cd, wr0n (by omega), wrnn (by omega), wrnn (by omega), eWo1, show lk b + lk c + lk d = lk b + (lk c + lk d) by omega,
      wyS_n (by omega) (by omega) (by decide) (p1 (Nat.le_trans m1 (by decide))), show lk b + (lk c + lk d) - lk b = lk c + lk d by omega, wyS_n (by omega) (by omega) (p1 (Nat.le_trans m1 (by decide))) (p1 (Nat.le_trans m2 (by decide))), show lk c + lk d - lk c = lk d by omega,
      wyS_n (by omega) (by omega) (p1 (Nat.le_trans m2 (by decide))) (by rw [bc_self, Nat.mul_one]; exact p1 (Nat.le_trans m2 (by decide)))]
    unfold othI o1
    rw [Int.toNat_natCast, Int.toNat_natCast, Int.toNat_natCast, eWn, decide_eq_true (show (0 : Int) = 0 by rfl), cond_true]
    have x3 : wy [lk b, lk c, lk d] = bc (lk b + (lk c + (lk d + 0))) (lk b) * (bc (lk c + (lk d + 0)) (lk c) * (bc (lk d + 0) (lk d) * 1)) := rfl
    rw [x3, Nat.one_mul, Nat.mul_one, Nat.add_zero, Nat.mul_assoc]
  · refine (roth1_eval eW _ _ _ _).trans ?_
    have m1 : 1 * bc (lk c + lk d) (lk c) ≤ 2 ^ 26 := by rw [Nat.one_mul]; exact bcp _ _ (by omega)
    rw [eWu_n hc, eWu_n hd, eWn1, cond_true, cond_true, cond_true, wlk_n P.cc, wlk_n P.cd, wr0n (by omega), wrnn (by omega), eWo1,
      wyS_n (by omega) (by omega) (by decide) (p1 (Nat.le_trans m1 (by decide))), show lk c + lk d - lk c = lk d by omega,
      wyS_n (by omega) (by omega) (p1 (Nat.le_trans m1 (by decide))) (by rw [bc_self, Nat.mul_one]; exact p1 (Nat.le_trans m1 (by decide)))]
    unfold othI o2
    rw [Int.toNat_natCast, Int.toNat_natCast, eWn, decide_eq_false (show ¬ (1 : Int) = 0 by decide), cond_false, decide_eq_true (show (1 : Int) = 1 by rfl), cond_true]
    have x3 : wy [lk c, lk d] = bc (lk c + (lk d + 0)) (lk c) * (bc (lk d + 0) (lk d) * 1) := rfl
    rw [x3, Nat.one_mul, Nat.mul_one, Nat.add_zero]
  · refine (roth2_eval eW _ _ _ _).trans ?_
    rw [eWu_n hd, eWn1, cond_true, cond_true, wlk_n P.cd, wr0n (by omega), eWo1, wyS_n (by omega) (by omega) (by decide) (by rw [bc_self]; decide), bc_self, eWn]
    rfl
  · refine (roth3_eval eW _ _ _ _).trans ?_
    rw [eWn1, cond_true, eWo1, eWn]
    rfl
def cl (m : Nat) : Nat → List Int
  | 0 => []
  | n + 1 => if m.testBit n then cl m n ++ [(n : Int)] else cl m n
theorem cl_len (m : Nat) : ∀ n, (cl m n).length = cnt m n
  | 0 => rfl
  | n + 1 => by
    have := cl_len m n
    simp only [cl, cnt]
    split
    · rw [List.length_append, this]; rfl
    · exact this
theorem ca_loop (rd : Option Nat) {a b c d : Nat} (h4 : in4 (a : Int) b c d = true) (e : Nat) (he : e = 52) : ∀ i : Nat, i ≤ e →
    SimC Tryz.prog 0 rd (.loop caLp) (caT.at [.i (i : Int), .i (a : Int), .i (b : Int), .i (c : Int), .i (d : Int), .l (cl (lf a b c d) i)]) (.exit 0) (caX.at [.i (a : Int), .i (b : Int), .i (c : Int), .i (d : Int), .l (cl (lf a b c d) e)]) := by
  refine loop_of_rounds (C := orcF e7) (L := noLoops) (N := 100) (me := 28) (T := caT) (T' := caX) orcF_ok mixed noLoops_ok (by kernel_rfl) (by kernel_rfl) (X := Nat)
    (fun i => [.i (i : Int), .i (a : Int), .i (b : Int), .i (c : Int), .i (d : Int), .l (cl (lf a b c d) i)]) (fun i => i ≤ e) (fun i => e - i) (fun _ => (.exit 0, [.i (a : Int), .i (b : Int), .i (c : Int), .i (d : Int), .l (cl (lf a b c d) e)])) ?_
  intro i hi
  have hge : ¬ i < 52 → i = e := fun q => Nat.le_antisymm hi (by rw [he]; exact Nat.le_of_not_lt q)
  have h := ca_round e7 rd (i : Int) (a : Int) (b : Int) (c : Int) (d : Int) (cl (lf a b c d) i)
  by_cases hlt : i < 52
  · have hk : e7.hk (a : Int) b c d (i : Int) = true := by
      rw [e7k, hkI, h4, decide_eq_true (show 0 ≤ (i : Int) ∧ (i : Int) ≤ 1000 by omega)]; rfl
    have hlen : (cl (lf a b c d) i ++ [(i : Int)]).length * 9 ≤ 70368744177664 := by
      have h1 := cl_len (lf a b c d) i
      have h2 := cnt_le (lf a b c d) i
      rw [List.length_append, h1]
      show (cnt (lf a b c d) i + 1) * 9 ≤ _
      omega
    have hf := lf_ho (a := a) (b := b) (c := c) (d := d) hlt
    rw [decide_eq_true (show (i : Int) < 52 by omega), cond_true, hk, cond_true, e7o, ho_n, decide_eq_true hlen, cond_true, wr64 (x := (i : Int) + 1) (by omega) (by omega)] at h
    by_cases hz : hoN a b c d i = 0
    · rw [decide_eq_true (show ((hoN a b c d i : Nat) : Int) = 0 by omega), cond_true] at h
      have hs : cl (lf a b c d) (i + 1) = cl (lf a b c d) i ++ [(i : Int)] := by
        rw [decide_eq_true hz] at hf
        simp only [cl]; rw [if_pos hf]
      exact ⟨_, _, _, h, codesNil, .inl ⟨rfl, i + 1, by rw [hs]; rfl, by omega, by omega, rfl⟩⟩
    · rw [decide_eq_false (show ¬ ((hoN a b c d i : Nat) : Int) = 0 by omega), cond_false] at h
      have hs : cl (lf a b c d) (i + 1) = cl (lf a b c d) i := by
        rw [decide_eq_false hz] at hf
        simp only [cl]; rw [if_neg (by rw [hf]; decide)]
      exact ⟨_, _, _, h, codesNil, .inl ⟨rfl, i + 1, by rw [hs]; rfl, by omega, by omega, rfl⟩⟩
  · have hie : i = e := hge hlt
    have h52 : ¬ ((e : Nat) : Int) < 52 := by rw [← hie]; omega
    rw [hie]
    rw [hie, decide_eq_false h52, cond_false] at h
    exact ⟨_, _, _, h, codesNil, .inr ⟨(fun h => by cases h), rfl⟩⟩
def caC (i a b c d : Int) (l : List Int) : Bool := decide (i = 0 ∧ l.length = 0) && in4 a b c d
def cdI (a b c d : Int) : List Int := cl (lf a.toNat b.toNat c.toNat d.toNat) 52
noncomputable def caTr : List PV → Fin
  | [.i i, .i a, .i b, .i c, .i d, .l l] => .br (caC i a b c d l) (.leaf (.exit 0) (caX.at [.i a, .i b, .i c, .i d, .l (cdI a b c d)])) .no
  | _ => .no
noncomputable def caL : Loops := sums (fun n => match n with | 3 => some (lsumF 0 caT caLp caTr) | _ => none)
theorem caL_ok : loopsOk Tryz.prog caL := by
  intro n g hg
  simp only [caL, sums] at hg
  split at hg
  · cases hg
    refine lsumF_ok (by kernel_rfl) (fun rd ps e1 s1 h => ?_)
    unfold caTr at h
    split at h
    · rename_i i a b c d l
      simp only [Fin.pick] at h
      cases hc : caC i a b c d l with
      | false => rw [hc] at h; cases h
      | true =>
        rw [hc, cond_true] at h
        unfold caC at hc
        rw [Bool.and_eq_true, decide_eq_true_eq] at hc
        obtain ⟨⟨rfl, hl⟩, h4⟩ := hc
        obtain rfl := List.eq_nil_of_length_eq_zero hl
        have h5 := h4
        obtain ⟨a, b, c, d, rfl, rfl, rfl, rfl, ha, hb, hc, hd⟩ := in4_nat h4
        have hl := ca_loop rd h5 52 rfl 0 (by omega)
        unfold cdI at h
        rw [Int.toNat_natCast, Int.toNat_natCast, Int.toNat_natCast, Int.toNat_natCast] at h
        cases h
        exact hl
    · cases h
  · cases hg
theorem cards_eval (E : E7) (a b c d : Int) : evalFn Tryz.prog (orcF E) caL 100 28 Tryz.f28 [q4 a b c d] [] N2.keepB =
    cond (codesB [(caLp, caLp)]) (bif caC 0 a b c d [] then some (.gs 1, [.own 23 (.vs [.int .u64 a, .int .u64 b, .int .u64 c, .int .u64 d]), .grow false 3 1 (.ints .i64 (cdI a b c d))]) else none) none := by kernel_rfl
theorem cards_fn {a b c d : Int} (h : in4 a b c d = true) : FnOK Tryz.prog 28 [q4 a b c d] [] (.gs 0) ([] ++ [.grow false 3 1 (.ints .i64 (cdI a b c d))]) := by
  have he := cards_eval e7 a b c d
  rw [codesD, cond_true, show caC 0 a b c d [] = true by (unfold caC; rw [h]; rfl), cond_true] at he
  obtain ⟨v1, h1, hk, hok⟩ := evalFn_ok orcF_ok mixed Tryz.func28 caL_ok he
  cases hk
  exact hok.lastAt (j := 1) rfl rfl (fun b blk hb => by simp at hb)
end Go.Proofs.YtpalajfcffdhoaaGreatDoor
