/- Texts merged: NaRMul, NaRDiv. -/
import Derived.Test.YtnbfnoomhlamnaaNaRP
import Derived.Test.YtnbfnoomhlamnaaNaNat8
/- Chapter 2, the reference: Mul of two. -/
namespace Go.Proofs.Ytnbfnoomhlamnaa.N2
open Go Go.Eng
theorem rmul_eval (N : NE) (Z E : Int → Int) (ok : List Int → Bool) (vl : List Int → Int) (a b c d e f g h : Int) : evalFn Try.prog (orcQ (hTabZ N Z E ok vl)) noLoops 200 59 Try.f59 [.gs 0] [.rs true 4 (.ints .u32 [a, b, c, d, e, f, g, h])] keepV =
    bif N.inn a b c d then bif N.n.ok [1] && N.n.ok (N.dg a b c d) then bif N.inn e f g h then bif N.n.ok (N.n.prod [1] (N.dg a b c d)) && N.n.ok (N.dg e f g h) then outN Z E ok vl (N.n.prod (N.n.prod [1] (N.dg a b c d)) (N.dg e f g h)) else none else none else none else none := by kernel_rfl
theorem row_ro {l : List Int} : ∀ (b : Nat) blk, ([.rs true 4 (.ints .u32 l)] : List Blk)[b]? = some blk → blk.mine = false := by
  intro b blk hb
  match b, hb with
  | 0, hb => cases hb; rfl
  | _ + 1, hb => simp at hb
theorem pt_mul (m n : Nat) : ptZ ((m * n : Nat) : Int) = mulZ (m : Int) (n : Int) ∧ ptE ((m * n : Nat) : Int) = mulE (m : Int) (n : Int) := by
  unfold ptZ ptE mulZ mulE
  rw [Int.natCast_mul]
  exact ⟨rfl, rfl⟩
theorem rmul_fn {a b c d e f g h : Int} (hx : inN a b c d = true) (hy : inN e f g h = true) :
    FnOK Try.prog 59 [.gs 0] [.rs true 4 (.ints .u32 [a, b, c, d, e, f, g, h])] (.tuple [nW (mulZ (nval a b c d) (nval e f g h)), .int .i64 (mulE (nval a b c d) (nval e f g h))]) [.rs true 4 (.ints .u32 [a, b, c, d, e, f, g, h])] := by
  have key : evalFn Try.prog (orcQ (hTabZ E0 ptZ ptE okP val)) noLoops 200 59 Try.f59 [.gs 0] [.rs true 4 (.ints .u32 [a, b, c, d, e, f, g, h])] keepV = some (.tuple [nW (mulZ (nval a b c d) (nval e f g h)), .int .i64 (mulE (nval a b c d) (nval e f g h))]) := by
    rw [rmul_eval, show E0.inn = inN from rfl, hx, hy]
    obtain ⟨m, hm, em, lm, km⟩ := dg_nat hx
    obtain ⟨n, hn, en, ln, kn⟩ := dg_nat hy
    have k1 : E0.n.ok [1] = true := by
      have : E0.n.ok (D 1) = true := okD_lt (n := 1) (by omega)
      exact this
    have p1 : E0.n.prod [1] (D m) = D m := by
      rw [show E0.n.prod = prodD from rfl, show ([1] : List Int) = D 1 from rfl, prodD_D, Nat.one_mul]
    have p2 : E0.n.prod (D m) (D n) = D (m * n) := by
      rw [show E0.n.prod = prodD from rfl, prodD_D]
    have hlt : m * n < 10 ^ 78 := Nat.lt_of_le_of_lt (Nat.mul_le_mul (Nat.le_of_lt lm) (Nat.le_of_lt ln)) (by decide)
    rw [em, en, k1, km, kn, p1, km, p2, out_D hlt (by decide), hm, hn, (pt_mul m n).1, (pt_mul m n).2]
    rfl
  obtain ⟨v1, h1, hk, hok⟩ := evalFn_ok (orcQ_ok hTabZ_ok) mixed Try.func59 noLoops_ok key
  simp only [keepV, Option.some.injEq] at hk
  subst hk
  exact hok.plain rfl row_ro
end Go.Proofs.Ytnbfnoomhlamnaa.N2

/- Chapter 2, the reference: Div and Gcd: the same results as nat's own. -/
namespace Go.Proofs.Ytnbfnoomhlamnaa.N2
open Go Go.Eng
theorem rdiv_eval (N : NE) (Z E : Int → Int) (ok : List Int → Bool) (vl : List Int → Int) (a b c d e f g h : Int) : evalFn Try.prog (orcQ (hTabZ N Z E ok vl)) noLoops 200 60 Try.f60 (nat2 a b c d e f g h) [] (fun v _ => some v) =
    bif N.inn e f g h then bif decide (nI (N.dg e f g h) = 0) then some (.tuple [nW 0, nW 0, .int .i64 2]) else
      bif N.inn a b c d then bif N.inn e f g h then bif N.okQ (N.dg a b c d) (N.dg e f g h) then bif ok (N.quo (N.dg a b c d) (N.dg e f g h)) then bif ok (N.rem (N.dg a b c d) (N.dg e f g h)) then
        some (.tuple [nW (Z (vl (N.quo (N.dg a b c d) (N.dg e f g h)))), nW (Z (vl (N.rem (N.dg a b c d) (N.dg e f g h)))), .int .i64 0]) else none else none else none else none else none else none := by kernel_rfl
theorem okQ_D {m n : Nat} (hm : m < 340282366920938463463374607431768211456) (hn : n < 340282366920938463463374607431768211456) (h1 : 1 ≤ n) : E0.okQ (D m) (D n) = true := by
  have a1 : (D m).length ≤ 39 := D_len_lt (Nat.lt_trans hm (by decide))
  have a2 : (D n).length ≤ 39 := D_len_lt (Nat.lt_trans hn (by decide))
  rw [show E0.okQ = dvC from rfl]
  unfold dvC
  rw [isD_D, isD_D, val_D, decide_eq_true ⟨by omega, by omega, by omega⟩]; rfl
theorem quo_D (m n : Nat) : E0.quo (D m) (D n) = D (m / n) := by
  rw [show E0.quo = quoD from rfl]
  unfold quoD
  rw [val_D, val_D]; rfl
theorem rem_D (m n : Nat) : E0.rem (D m) (D n) = D (m % n) := by
  rw [show E0.rem = remD from rfl]
  unfold remD
  rw [val_D, val_D]; rfl
theorem okP_D {m : Nat} (hm : m < 340282366920938463463374607431768211456) : okP (D m) = true := by
  have a1 : (D m).length ≤ 39 := D_len_lt (Nat.lt_trans hm (by decide))
  unfold okP
  rw [isD_D, decide_eq_true (by omega)]; rfl
theorem ptZ_lt {m : Nat} (hm : m < 340282366920938463463374607431768211456) : ptZ (m : Int) = (m : Int) := by
  unfold ptZ
  rw [decide_eq_true (by omega)]; rfl
theorem nI_zero {m : Nat} : decide (nI (D m) = 0) = decide (m = 0) := by
  rw [nI_eq, Bool.eq_iff_iff, decide_eq_true_eq, decide_eq_true_eq]
  constructor
  · intro h
    have : (D m).length = 0 := by omega
    have := List.eq_nil_of_length_eq_zero this
    have hv := val_D m
    rw [this] at hv
    simp only [val] at hv
    omega
  · rintro rfl; rfl
theorem rdiv_p {a b c d e f g h : Int} (hx : inN a b c d = true) (hy : inN e f g h = true) : FnPure Try.prog 60 (nat2 a b c d e f g h) (.tuple [nW (divZ (nval a b c d) (nval e f g h)), nW (remZ (nval a b c d) (nval e f g h)), .int .i64 (divE (nval e f g h))]) := by
  refine fnPure_of_eval (N := 200) (orcQ_ok hTabZ_ok) mixed Try.func60 (by kernel_rfl) noLoops_ok ?_ rfl rfl
  rw [rdiv_eval, show E0.inn = inN from rfl, hx, hy]
  obtain ⟨m, hm, em, lm, km⟩ := dg_nat hx
  obtain ⟨n, hn, en, ln, kn⟩ := dg_nat hy
  unfold divZ remZ divE
  rw [em, en, hm, hn, nI_zero]
  by_cases h0 : n = 0
  · subst h0
    rfl
  · have q1 : m / n < 340282366920938463463374607431768211456 := Nat.lt_of_le_of_lt (Nat.div_le_self m n) lm
    have q2 : m % n < 340282366920938463463374607431768211456 := Nat.lt_of_le_of_lt (Nat.mod_le m n) lm
    rw [decide_eq_false h0, decide_eq_false (show ¬ (n : Int) = 0 by omega), okQ_D lm ln (by omega), quo_D, rem_D, okP_D q1, okP_D q2, val_D, val_D, ptZ_lt q1, ptZ_lt q2]
    rfl
/-! ### Gcd -/
end Go.Proofs.Ytnbfnoomhlamnaa.N2
