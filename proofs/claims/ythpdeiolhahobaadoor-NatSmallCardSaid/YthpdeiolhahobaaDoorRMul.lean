/- Texts merged: RMul, RDiv. -/
import Derived.Test.YthpdeiolhahobaaDoorRAdd
import Derived.Test.YthpdeiolhahobaaDoorNat8
/- Chapter 2, the reference: Mul of two. -/
namespace Go.Proofs.YthpdeiolhahobaaDoor
open Go Go.Eng
theorem rmul_eval (N : NE) (Z E : Int → Int) (ok : List Int → Bool) (vl : List Int → Int) (a b c d e f g h : Int) : evalFn Tryd.prog (orcQ (hTabZ N Z E ok vl)) noLoops 200 30 Tryd.f30 [.gs 0] [.rs true 4 (.ints .u32 [a, b, c, d, e, f, g, h])] keepV =
    bif N.inn a b c d then bif N.n.ok [1] && N.n.ok (N.dg a b c d) then bif N.inn e f g h then bif N.n.ok (N.n.prod [1] (N.dg a b c d)) && N.n.ok (N.dg e f g h) then outN Z E ok vl (N.n.prod (N.n.prod [1] (N.dg a b c d)) (N.dg e f g h)) else none else none else none else none := by kernel_rfl
theorem row_ro {l : List Int} : ∀ (b : Nat) blk, ([.rs true 4 (.ints .u32 l)] : List Blk)[b]? = some blk → blk.mine = false := by
  intro b blk hb
  match b, hb with
  | 0, hb => cases hb; rfl
  | _ + 1, hb => simp at hb
theorem pt_mul (m n : Nat) : ptZ ((m * n : Nat) : Int) = mulZ (m : Int) (n : Int) ∧ ptE ((m * n : Nat) : Int) = mulE (m : Int) (n : Int) := by
  unfold ptZ ptE mulZ mulE
  rw [Int.natCast_mul]
  exact ⟨rfl, rfl⟩
theorem rmul_fn {a b c d e f g h : Int} (hx : inN a b c d = true) (hy : inN e f g h = true) :
    FnOK Tryd.prog 30 [.gs 0] [.rs true 4 (.ints .u32 [a, b, c, d, e, f, g, h])] (.tuple [nW (mulZ (nval a b c d) (nval e f g h)), .int .i64 (mulE (nval a b c d) (nval e f g h))]) [.rs true 4 (.ints .u32 [a, b, c, d, e, f, g, h])] := by
  have key : evalFn Tryd.prog (orcQ (hTabZ E0 ptZ ptE okP val)) noLoops 200 30 Tryd.f30 [.gs 0] [.rs true 4 (.ints .u32 [a, b, c, d, e, f, g, h])] keepV = some (.tuple [nW (mulZ (nval a b c d) (nval e f g h)), .int .i64 (mulE (nval a b c d) (nval e f g h))]) := by
    rw [rmul_eval, show E0.inn = inN from rfl, hx, hy]
    obtain ⟨m, hm, em, lm, km⟩ := dg_nat hx
    obtain ⟨n, hn, en, ln, kn⟩ := dg_nat hy
    have k1 : E0.n.ok [1] = true := by
      have : E0.n.ok (D 1) = true := okD_lt (n := 1) (by omega)
      exact this
    have p1 : E0.n.prod [1] (D m) = D m := by
      rw [show E0.n.prod = prodD from rfl, show ([1] : List Int) = D 1 from rfl, prodD_D, Nat.one_mul]
    have p2 : E0.n.prod (D m) (D n) = D (m * n) := by
      rw [show E0.n.prod = prodD from rfl, prodD_D]
    have hlt : m * n < 10 ^ 78 := Nat.lt_of_le_of_lt (Nat.mul_le_mul (Nat.le_of_lt lm) (Nat.le_of_lt ln)) (by decide)
    rw [em, en, k1, km, kn, p1, km, p2, out_D hlt (by decide), hm, hn, (pt_mul m n).1, (pt_mul m n).2]
    rfl
  obtain ⟨v1, h1, hk, hok⟩ := evalFn_ok (orcQ_ok hTabZ_ok) mixed Tryd.func30 noLoops_ok key
  simp only [keepV, Option.some.injEq] at hk
  subst hk
  exact hok.plain rfl row_ro
end Go.Proofs.YthpdeiolhahobaaDoor

/- Chapter 2, the reference: Div and Gcd: the same results as nat's own. -/
namespace Go.Proofs.YthpdeiolhahobaaDoor
open Go Go.Eng
theorem rdiv_eval (N : NE) (Z E : Int → Int) (ok : List Int → Bool) (vl : List Int → Int) (a b c d e f g h : Int) : evalFn Tryd.prog (orcQ (hTabZ N Z E ok vl)) noLoops 200 42 Tryd.f42 (nat2 a b c d e f g h) [] (fun v _ => some v) =
    bif N.inn e f g h then bif decide (nI (N.dg e f g h) = 0) then some (.tuple [nW 0, nW 0, .int .i64 2]) else
      bif N.inn a b c d then bif N.inn e f g h then bif N.okQ (N.dg a b c d) (N.dg e f g h) then bif ok (N.quo (N.dg a b c d) (N.dg e f g h)) then bif ok (N.rem (N.dg a b c d) (N.dg e f g h)) then
        some (.tuple [nW (Z (vl (N.quo (N.dg a b c d) (N.dg e f g h)))), nW (Z (vl (N.rem (N.dg a b c d) (N.dg e f g h)))), .int .i64 0]) else none else none else none else none else none else none := by kernel_rfl
theorem okQ_D {m n : Nat} (hm : m < 340282366920938463463374607431768211456) (hn : n < 340282366920938463463374607431768211456) (h1 : 1 ≤ n) : E0.okQ (D m) (D n) = true := by
  have a1 : (D m).length ≤ 39 := D_len_lt (Nat.lt_trans hm (by decide))
  have a2 : (D n).length ≤ 39 := D_len_lt (Nat.lt_trans hn (by decide))
  rw [show E0.okQ = dvC from rfl]
  unfold dvC
  rw [isD_D, isD_D, val_D, decide_eq_true ⟨by omega, by omega, by omega⟩]; rfl
theorem quo_D (m n : Nat) : E0.quo (D m) (D n) = D (m / n) := by
  rw [show E0.quo = quoD from rfl]
  unfold quoD
  rw [val_D, val_D]; rfl
theorem rem_D (m n : Nat) : E0.rem (D m) (D n) = D (m % n) := by
  rw [show E0.rem = remD from rfl]
  unfold remD
  rw [val_D, val_D]; rfl
theorem okP_D {m : Nat} (hm : m < 340282366920938463463374607431768211456) : okP (D m) = true := by
  have a1 : (D m).length ≤ 39 := D_len_lt (Nat.lt_trans hm (by decide))
  unfold okP
  rw [isD_D, decide_eq_true (by omega)]; rfl
theorem ptZ_lt {m : Nat} (hm : m < 340282366920938463463374607431768211456) : ptZ (m : Int) = (m : Int) := by
  unfold ptZ
  rw [decide_eq_true (by omega)]; rfl
theorem nI_zero {m : Nat} : decide (nI (D m) = 0) = decide (m = 0) := by
  rw [nI_eq, Bool.eq_iff_iff, decide_eq_true_eq, decide_eq_true_eq]
  constructor
  · intro h
    have : (D m).length = 0 := by omega
    have := List.eq_nil_of_length_eq_zero this
    have hv := val_D m
    rw [this] at hv
    simp only [val] at hv
    omega
  · rintro rfl; rfl
theorem rdiv_p {a b c d e f g h : Int} (hx : inN a b c d = true) (hy : inN e f g h = true) : FnPure Tryd.prog 42 (nat2 a b c d e f g h) (.tuple [nW (divZ (nval a b c d) (nval e f g h)), nW (remZ (nval a b c d) (nval e f g h)), .int .i64 (divE (nval e f g h))]) := by
  refine fnPure_of_eval (N := 200) (orcQ_ok hTabZ_ok) mixed Tryd.func42 (by kernel_rfl) noLoops_ok ?_ rfl rfl
  rw [rdiv_eval, show E0.inn = inN from rfl, hx, hy]
  obtain ⟨m, hm, em, lm, km⟩ := dg_nat hx
  obtain ⟨n, hn, en, ln, kn⟩ := dg_nat hy
  unfold divZ remZ divE
  rw [em, en, hm, hn, nI_zero]
  by_cases h0 : n = 0
  · subst h0
    rfl
  · have q1 : m / n < 340282366920938463463374607431768211456 := Nat.lt_of_le_of_lt (Nat.div_le_self m n) lm
    have q2 : m % n < 340282366920938463463374607431768211456 := Nat.lt_of_le_of_lt (Nat.mod_le m n) lm
    rw [decide_eq_false h0, decide_eq_false (show ¬ (n : Int) = 0 by omega), okQ_D lm ln (by omega), quo_D, rem_D, okP_D q1, okP_D q2, val_D, val_D, ptZ_lt q1, ptZ_lt q2]
    rfl
/-! ### Gcd -/
noncomputable def rgcLp : Code := loopOf 2 Tryd.f44
def rgcT : Tm := ⟨mkS [(4, .ptr 0 0), (5, .gs 1), (6, .gs 2)] 0 32, [.own 27 z4, .grow false 3 1 i64s, .grow false 3 1 i64s], []⟩
theorem rgc_round (N : NE) (Z E : Int → Int) (ok : List Int → Bool) (vl : List Int → Int) (rd : Option Nat) (xs ys : List Int) : roundT Tryd.prog (orcQ (hTabZ N Z E ok vl)) noLoops 200 0 rd 44 rgcLp rgcT rgcT [.l xs, .l ys] =
    bif decide (0 < nI ys) then bif N.okQ xs ys then some (.normal, [.l ys, .l (N.rem xs ys)], []) else none else some (.exit 0, [.l xs, .l ys], []) := by kernel_rfl
theorem rgc_loop (rd : Option Nat) : ∀ x : Nat × Nat, (x.1 < 340282366920938463463374607431768211456 ∧ x.2 < 340282366920938463463374607431768211456) →
    SimC Tryd.prog 0 rd (.loop rgcLp) (rgcT.at [.l (D x.1), .l (D x.2)]) (.exit 0) (rgcT.at [.l (D (Nat.gcd x.1 x.2)), .l []]) := by
  refine loop_of_rounds (C := orcQ (hTabZ E0 ptZ ptE okP val)) (L := noLoops) (N := 200) (me := 44) (T := rgcT) (T' := rgcT) (orcQ_ok hTabZ_ok) mixed noLoops_ok (by kernel_rfl) (by kernel_rfl) (X := Nat × Nat)
    (fun x => [.l (D x.1), .l (D x.2)]) (fun x => x.1 < 340282366920938463463374607431768211456 ∧ x.2 < 340282366920938463463374607431768211456) (fun x => x.2)
    (fun x => (.exit 0, [.l (D (Nat.gcd x.1 x.2)), .l []])) ?_
  rintro ⟨m, n⟩ ⟨hm, hn⟩
  dsimp only at hm hn ⊢
  have h := rgc_round E0 ptZ ptE okP val rd (D m) (D n)
  have hpos : decide (0 < nI (D n)) = !decide (n = 0) := by
    rw [← nI_zero, nI_eq, Bool.eq_iff_iff]
    simp only [decide_eq_true_eq, Bool.not_eq_true', decide_eq_false_iff_not]
    omega
  by_cases h0 : n = 0
  · subst h0
    refine ⟨_, _, _, h, codes0, .inr ⟨by simp, ?_⟩⟩
    rw [Nat.gcd_zero_right]
    rfl
  · rw [hpos, decide_eq_false h0, Bool.not_false, cond_true, okQ_D hm hn (by omega), cond_true, rem_D] at h
    have hlt : m % n < n := Nat.mod_lt _ (by omega)
    refine ⟨_, _, _, h, codes0, .inl ⟨rfl, (n, m % n), rfl, ⟨hn, by dsimp only; omega⟩, hlt, ?_⟩⟩
    dsimp only
    rw [Nat.gcd_comm n (m % n), ← Nat.gcd_rec, Nat.gcd_comm n m]
def rgcC (xs ys : List Int) : Bool := isD xs && (isD ys && decide (val xs < 340282366920938463463374607431768211456 ∧ val ys < 340282366920938463463374607431768211456))
def rgcD (xs ys : List Int) : List Int := D (Nat.gcd (val xs).toNat (val ys).toNat)
noncomputable def rgcTree : List PV → Fin
  | [.l xs, .l ys] => .br (rgcC xs ys) (.leaf (.exit 0) (rgcT.at [.l (rgcD xs ys), .l []])) .no
  | _ => .no
noncomputable def rgcL : Loops := sums (fun n => match n with | 2 => some (lsumF 0 rgcT rgcLp rgcTree) | _ => none)
theorem rgcL_ok : loopsOk Tryd.prog rgcL := by
  intro n g hg
  simp only [rgcL, sums] at hg
  split at hg
  · cases hg
    refine lsumF_ok (by kernel_rfl) (fun rd ps e1 st1 hq => ?_)
    unfold rgcTree at hq
    split at hq
    · rename_i xs ys
      simp only [Fin.pick] at hq
      cases hc : rgcC xs ys with
      | false => rw [hc] at hq; cases hq
      | true =>
        rw [hc, cond_true] at hq
        cases hq
        simp only [rgcC, Bool.and_eq_true, decide_eq_true_eq] at hc
        obtain ⟨hx, hy, h1, h2⟩ := hc
        obtain ⟨m, rfl⟩ := isD_eq hx
        obtain ⟨n, rfl⟩ := isD_eq hy
        rw [val_D] at h1 h2
        have := rgc_loop rd (m, n) ⟨by dsimp only; omega, by dsimp only; omega⟩
        unfold rgcD
        rw [val_D, val_D]
        exact this
    · cases hq
  · cases hg
theorem rgcd_eval (a b c d e f g h : Int) : evalFn Tryd.prog (orcQ (hTabZ E0 ptZ ptE okP val)) rgcL 200 44 Tryd.f44 (nat2 a b c d e f g h) [] (fun v _ => some v) =
    bif inN a b c d then bif inN e f g h then cond (codesB [(rgcLp, rgcLp)]) (bif rgcC (dgD a b c d) (dgD e f g h) then bif okP (rgcD (dgD a b c d) (dgD e f g h)) then some (nW (ptZ (val (rgcD (dgD a b c d) (dgD e f g h))))) else none else none) none else none else none := by kernel_rfl
theorem rgcd_p {a b c d e f g h : Int} (hx : inN a b c d = true) (hy : inN e f g h = true) : FnPure Tryd.prog 44 (nat2 a b c d e f g h) (nW (gcdZ (nval a b c d) (nval e f g h))) := by
  refine fnPure_of_eval (N := 200) (orcQ_ok hTabZ_ok) mixed Tryd.func44 (by kernel_rfl) rgcL_ok ?_ rfl rfl
  have hcd : codesB [(rgcLp, rgcLp)] = true := by rw [codesB_iff]; intro x hx; simp at hx; rw [hx]
  obtain ⟨m, hm, em, lm, km⟩ := dg_nat hx
  obtain ⟨n, hn, en, ln, kn⟩ := dg_nat hy
  have e1 : dgD a b c d = D m := em
  have e2 : dgD e f g h = D n := en
  have k1 : rgcC (D m) (D n) = true := by
    unfold rgcC
    rw [isD_D, isD_D, val_D, val_D, decide_eq_true ⟨by omega, by omega⟩]; rfl
  have e3 : rgcD (D m) (D n) = D (Nat.gcd m n) := by
    unfold rgcD
    rw [val_D, val_D]; rfl
  have hg : Nat.gcd m n < 340282366920938463463374607431768211456 := by
    rcases Nat.eq_zero_or_pos m with h0 | h0
    · subst h0; rw [Nat.gcd_zero_left]; exact ln
    · exact Nat.lt_of_le_of_lt (Nat.gcd_le_left n h0) lm
  rw [rgcd_eval, hcd, hx, hy, e1, e2, k1, e3, okP_D hg, val_D, ptZ_lt hg, hm, hn]
  rfl
end Go.Proofs.YthpdeiolhahobaaDoor
