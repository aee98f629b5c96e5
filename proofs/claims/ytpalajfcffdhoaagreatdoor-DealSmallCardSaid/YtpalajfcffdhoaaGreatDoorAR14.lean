/- Texts merged: AR14, ARP, AOf, ARAdd. -/
import Derived.Test.YtpalajfcffdhoaaGreatDoorAR12
import Derived.Test.YtpalajfcffdhoaaGreatDoorANat6
/- Chapter 2, the reference: parts. -/
namespace Go.Proofs.YtpalajfcffdhoaaGreatDoor.N2
open Go Go.Eng
structure NE where
  n : ND
  quo : List Int → List Int → List Int
  rem : List Int → List Int → List Int
  okQ : List Int → List Int → Bool
  most : List Int
  dg : Int → Int → Int → Int → List Int
  inn : Int → Int → Int → Int → Bool
def gDiv52 (N : NE) : List V → List Blk → Option (Bool × V × List Blk)
  | [.gs 0, .gs 1], [.rs _ 1 (.ints .i64 xs), .rs _ 1 (.ints .i64 ys)] => some (N.okQ xs ys, .tuple [.gs 4, .gs 3], [.dead, .grow false 3 1 (.ints .i64 (N.rem xs ys)), .grow true 3 1 (.ints .i64 (N.quo xs ys))])
  | _, _ => none
def gMost (N : NE) : List V → List Blk → Option (Bool × V × List Blk)
  | [], [] => some (true, .gs 0, [.grow true 3 1 (.ints .i64 N.most)])
  | _, _ => none
def gDigits (N : NE) : List V → List Blk → Option (Bool × V × List Blk)
  | [.agg [.int .u32 a, .int .u32 b, .int .u32 c, .int .u32 d]], [] => some (N.inn a b c d, .gs 0, [.grow false 3 1 (.ints .i64 (N.dg a b c d))])
  | _, _ => none
def hTabE (N : NE) : HTab := addH 56 (gDiv52 N) (addH 92 (gMost N) (addH 54 (gDigits N) (hTabD N.n)))
def domE : FuncId → Bool := fun f => Nat.beq f 56 || (Nat.beq f 92 || (Nat.beq f 54 || domD f))
noncomputable abbrev orcE (HT : HTab) (LL : FuncId → Loops) : Oracle := inl Tryz.prog ftab tabA LL 200 never domE (orElse domT (resOrc rTab) (hOrcP nrI HT)) 20
theorem orcE_ok {HT : HTab} (hT : HTabOk Tryz.prog HT) {LL : FuncId → Loops} (hL : ∀ f, loopsOk Tryz.prog (LL f)) : OracleOk Tryz.prog (orcE HT LL) := inl_ok (orElse_ok (resOrc_ok rTab_ok) (hOrcP_ok hT)) ftab_ok tabA_ok hL mixed 20
def dgD (a b c d : Int) : List Int := DD (nval a b c d)
def E0 : NE := ⟨D0, quoD, remD, dvC, D 340282366920938463463374607431768211456, dgD, inN⟩
theorem hTabE_ok : HTabOk Tryz.prog (hTabE E0) := by
  refine addH_ok ?_ (addH_ok ?_ (addH_ok ?_ hTabD_ok))
  · intro args h c v nb hq hc
    unfold gDiv52 at hq
    split at hq
    · rename_i n1 xs n2 ys
      cases hq; exact ⟨.of Tryz.func56 (by kernel_rfl), div52_fn n1 n2 hc⟩
    · cases hq
  · intro args h c v nb hq hc
    unfold gMost at hq
    split at hq
    · cases hq; exact ⟨.of Tryz.func92 (by kernel_rfl), most_fn⟩
    · cases hq
  · intro args h c v nb hq hc
    unfold gDigits at hq
    split at hq
    · cases hq; exact ⟨.of Tryz.func54 (by kernel_rfl), digits_fn hc⟩
    · cases hq
def keepV (v : V) (_ : List Blk) : Option V := some v
def ptC {α : Type} (N : NE) (a : List Int) (K : Option α) : Option α := bif N.okQ a (N.n.D 4294967296) then bif N.n.okV (N.rem a (N.n.D 4294967296)) then K else none else none
def ptQ (N : NE) (a : List Int) : List Int := N.quo a (N.n.D 4294967296)
def ptV (N : NE) (a : List Int) : V := .int .u32 (wr .u32 (N.n.val (N.rem a (N.n.D 4294967296))))
theorem parts_eval (n1 : Bool) (N : NE) (xs : List Int) : evalFn Tryz.prog (orcE (hTabE N) plainL) noLoops 200 57 Tryz.f57 [.gs 0] [.rs n1 1 (.ints .i64 xs)] keepV =
    bif N.n.ok xs && N.n.ok N.most then bif !N.n.lt xs N.most then some (.tuple [nW 0, .int .i64 3]) else ptC N xs (ptC N (ptQ N xs) (ptC N (ptQ N (ptQ N xs)) (ptC N (ptQ N (ptQ N (ptQ N xs)))
      (some (.tuple [.agg [ptV N xs, ptV N (ptQ N xs), ptV N (ptQ N (ptQ N xs)), ptV N (ptQ N (ptQ N (ptQ N xs)))], .int .i64 0]))))) else none := by cases n1 <;> kernel_rfl
def ptZ (z : Int) : Int := bif decide (z < 340282366920938463463374607431768211456) then z else 0
def ptE (z : Int) : Int := bif decide (z < 340282366920938463463374607431768211456) then 0 else 3
theorem pt_step {m : Nat} (hl : (D m).length ≤ 999999) : (∀ {α : Type} (K : Option α), ptC E0 (D m) K = K) ∧ ptQ E0 (D m) = D (m / 4294967296) ∧ ptV E0 (D m) = .int .u32 ((m % 4294967296 : Nat) : Int) := by
  have hDw : E0.n.D 4294967296 = D 4294967296 := rfl
  have hwl : (D 4294967296).length ≤ 10 := D_len_lt (by decide)
  have hr : E0.rem (D m) (D 4294967296) = D (m % 4294967296) := by
    rw [show E0.rem = remD from rfl]
    unfold remD
    rw [val_D, val_D]; rfl
  refine ⟨fun {α} K => ?_, ?_, ?_⟩
  · unfold ptC
    have k1 : E0.okQ (D m) (D 4294967296) = true := by
      rw [show E0.okQ = dvC from rfl]
      unfold dvC
      rw [isD_D, isD_D, val_D, decide_eq_true ⟨hl, by omega, by omega⟩]; rfl
    have k2 : E0.n.okV (D (m % 4294967296)) = true := by
      rw [show E0.n.okV = okVD from rfl]
      unfold okVD
      rw [isD_D, val_D, decide_eq_true (by omega)]; rfl
    rw [hDw, k1, hr, k2]; rfl
  · unfold ptQ
    rw [hDw, show E0.quo = quoD from rfl]
    unfold quoD
    rw [val_D, val_D]; rfl
  · unfold ptV
    rw [hDw, hr, show E0.n.val = val from rfl, val_D, wr32 (by omega) (by omega)]
theorem one_ro {n1 : Bool} {xs : List Int} : ∀ (b : Nat) blk, ([.rs n1 1 (.ints .i64 xs)] : List Blk)[b]? = some blk → blk.mine = false := by
  intro b blk hb
  match b, hb with
  | 0, hb => cases hb; rfl
  | _ + 1, hb => simp at hb
theorem parts_fn (n1 : Bool) {xs : List Int} (h : (isD xs && decide (xs.length ≤ 999999)) = true) : FnOK Tryz.prog 57 [.gs 0] [.rs n1 1 (.ints .i64 xs)] (.tuple [nW (ptZ (val xs)), .int .i64 (ptE (val xs))]) ([.rs n1 1 (.ints .i64 xs)] ++ []) := by
  have he := parts_eval n1 E0 xs
  simp only [Bool.and_eq_true, decide_eq_true_eq] at h
  obtain ⟨m, rfl⟩ := isD_eq h.1
  have hl := h.2
  have k1 : E0.n.ok (D m) = true := okD_D (m := m) (by omega)
  have k2 : E0.n.ok E0.most = true := len_D (n := 340282366920938463463374607431768211456) (K := 39) (by decide) (by decide)
  have k3 : E0.n.lt (D m) E0.most = decide ((m : Int) < 340282366920938463463374607431768211456) := by
    rw [show E0.n.lt = ltD from rfl, show E0.most = D 340282366920938463463374607431768211456 from rfl]
    unfold ltD
    rw [val_D, val_D]; rfl
  have key : evalFn Tryz.prog (orcE (hTabE E0) plainL) noLoops 200 57 Tryz.f57 [.gs 0] [.rs n1 1 (.ints .i64 (D m))] keepV = some (.tuple [nW (ptZ (m : Int)), .int .i64 (ptE (m : Int))]) := by
    rw [he, k1, k2, k3, Bool.and_self, cond_true]
    unfold ptZ ptE
    by_cases hlt : (m : Int) < 340282366920938463463374607431768211456
    · obtain ⟨a1, a2, a3⟩ := pt_step hl
      obtain ⟨b1, b2, b3⟩ := pt_step (m := m / 4294967296) (Nat.le_trans (D_mono (Nat.div_le_self _ _)) hl)
      obtain ⟨c1, c2, c3⟩ := pt_step (m := m / 4294967296 / 4294967296) (Nat.le_trans (D_mono (Nat.le_trans (Nat.div_le_self _ _) (Nat.div_le_self _ _))) hl)
      obtain ⟨d1, _, d3⟩ := pt_step (m := m / 4294967296 / 4294967296 / 4294967296) (Nat.le_trans (D_mono (Nat.le_trans (Nat.div_le_self _ _) (Nat.le_trans (Nat.div_le_self _ _) (Nat.div_le_self _ _)))) hl)
      rw [decide_eq_true hlt, Bool.not_true, cond_false, cond_true, cond_true, a1, a2, a3, b1, b2, b3, c1, c2, c3, d1, d3]
      unfold nW w0 w1 w2 w3
      rw [show ((m % 4294967296 : Nat) : Int) = (m : Int) % 4294967296 by omega, show ((m / 4294967296 % 4294967296 : Nat) : Int) = (m : Int) / 4294967296 % 4294967296 by omega, show ((m / 4294967296 / 4294967296 % 4294967296 : Nat) : Int) = (m : Int) / 18446744073709551616 % 4294967296 by omega, show ((m / 4294967296 / 4294967296 / 4294967296 % 4294967296 : Nat) : Int) = (m : Int) / 79228162514264337593543950336 % 4294967296 by omega]
    · rw [decide_eq_false hlt]; rfl
  obtain ⟨v1, h1, hk, hok⟩ := evalFn_ok (orcE_ok hTabE_ok plainL_ok) mixed Tryz.func57 noLoops_ok key
  simp only [keepV, Option.some.injEq] at hk
  subst hk
  rw [val_D, List.append_nil]
  exact hok.plain rfl one_ro
end Go.Proofs.YtpalajfcffdhoaaGreatDoor.N2

/- Chapter 2, the reference: Read: the states of its loop. -/
namespace Go.Proofs.YtpalajfcffdhoaaGreatDoor.N2
open Go Go.Eng
def gParts (N : Int → Int) (E : Int → Int) (ok : List Int → Bool) (vl : List Int → Int) : List V → List Blk → Option (Bool × V × List Blk)
  | [.gs 0], [.rs _ 1 (.ints .i64 xs)] => some (ok xs, .tuple [nW (N (vl xs)), .int .i64 (E (vl xs))], [])
  | _, _ => none
def okP (xs : List Int) : Bool := isD xs && decide (xs.length ≤ 999999)
def hTabP : HTab := addH 57 (gParts ptZ ptE okP val) (hTabE E0)
theorem hTabP_ok : HTabOk Tryz.prog hTabP := by
  refine addH_ok ?_ hTabE_ok
  intro args h c v nb hq hc
  unfold gParts at hq
  split at hq
  · rename_i n1 xs
    cases hq; exact ⟨.of Tryz.func57 (by kernel_rfl), parts_fn n1 hc⟩
  · cases hq
def domP : FuncId → Bool := fun f => Nat.beq f 57 || domE f
noncomputable abbrev orcQ (HT : HTab) : Oracle := inl Tryz.prog ftab tabA plainL 200 never domP (orElse domT (resOrc rTab) (hOrcP nrI HT)) 20
theorem orcQ_ok {HT : HTab} (hT : HTabOk Tryz.prog HT) : OracleOk Tryz.prog (orcQ HT) := inl_ok (orElse_ok (resOrc_ok rTab_ok) (hOrcP_ok hT)) ftab_ok tabA_ok plainL_ok mixed 20
end Go.Proofs.YtpalajfcffdhoaaGreatDoor.N2

/- Chapter 2: Of and Int; the law NatWrong: its formula. -/
namespace Go.Proofs.YtpalajfcffdhoaaGreatDoor.N2
open Go Go.Eng
theorem bv64 (n : Nat) (h : n < 18446744073709551616) : (BitVec.ofInt 64 (n : Int)).toNat = n := by
  simp only [BitVec.toNat_ofInt]; omega
theorem or64 {a b : Nat} (ha : a < 18446744073709551616) (hb : b < 18446744073709551616) : bitsI .or .u64 (a : Int) (b : Int) = ((a ||| b : Nat) : Int) := by
  unfold bitsI
  show wr .u64 (((BitVec.ofInt 64 (a : Int) ||| BitVec.ofInt 64 (b : Int)).toNat : Nat) : Int) = _
  rw [BitVec.toNat_or, bv64 a ha, bv64 b hb]
  have := Nat.or_lt_two_pow (n := 64) ha hb
  exact wrU (by omega) (by omega)
def ofZ (n : Int) : Int := bif decide (n < 0) then 0 else n
def ofE (n : Int) : Int := bif decide (n < 0) then 21 else 0
def intZ (z : Int) : Int := bif decide (z < 9223372036854775808) then z else 0
def intE (z : Int) : Int := bif decide (z < 9223372036854775808) then 0 else 3
end Go.Proofs.YtpalajfcffdhoaaGreatDoor.N2

/- Chapter 2, the reference: Add, Sub, Cmp, Int, Of: the same results as nat's own. -/
namespace Go.Proofs.YtpalajfcffdhoaaGreatDoor.N2
open Go Go.Eng
def hTabZ (N : NE) (Z E : Int → Int) (ok : List Int → Bool) (vl : List Int → Int) : HTab := addH 57 (gParts Z E ok vl) (hTabE N)
theorem hTabZ_ok : HTabOk Tryz.prog (hTabZ E0 ptZ ptE okP val) := hTabP_ok
def outN (Z E : Int → Int) (ok : List Int → Bool) (vl : List Int → Int) (l : List Int) : Option V := bif ok l then some (.tuple [nW (Z (vl l)), .int .i64 (E (vl l))]) else none
abbrev nat2 (a b c d e f g h : Int) : List V := [.agg [.int .u32 a, .int .u32 b, .int .u32 c, .int .u32 d], .agg [.int .u32 e, .int .u32 f, .int .u32 g, .int .u32 h]]
theorem radd_eval (N : NE) (Z E : Int → Int) (ok : List Int → Bool) (vl : List Int → Int) (a b c d e f g h : Int) : evalFn Tryz.prog (orcQ (hTabZ N Z E ok vl)) noLoops 200 69 Tryz.f69 (nat2 a b c d e f g h) [] (fun v _ => some v) =
    bif N.inn a b c d then bif N.inn e f g h then bif N.n.ok (N.dg a b c d) && N.n.ok (N.dg e f g h) then outN Z E ok vl (N.n.sum (N.dg a b c d) (N.dg e f g h)) else none else none else none := by kernel_rfl
theorem rcmp_eval (N : NE) (Z E : Int → Int) (ok : List Int → Bool) (vl : List Int → Int) (a b c d e f g h : Int) : evalFn Tryz.prog (orcQ (hTabZ N Z E ok vl)) noLoops 200 27 Tryz.f27 (nat2 a b c d e f g h) [] (fun v _ => some v) =
    bif N.inn a b c d then bif N.inn e f g h then bif N.n.ok (N.dg a b c d) && N.n.ok (N.dg e f g h) then bif N.n.lt (N.dg a b c d) (N.dg e f g h) then some (.int .i64 (-1)) else
      bif N.n.ok (N.dg e f g h) && N.n.ok (N.dg a b c d) then bif N.n.lt (N.dg e f g h) (N.dg a b c d) then some (.int .i64 1) else some (.int .i64 0) else none else none else none else none := by kernel_rfl
theorem rof_eval (N : NE) (Z E : Int → Int) (ok : List Int → Bool) (vl : List Int → Int) (n : Int) : evalFn Tryz.prog (orcQ (hTabZ N Z E ok vl)) noLoops 200 52 Tryz.f52 [.int .i64 n] [] (fun v _ => some v) =
    bif decide (n < 0) then some (.tuple [nW 0, .int .i64 21]) else bif N.n.okI n then outN Z E ok vl (N.n.D n) else none := by kernel_rfl
theorem rint_eval (N : NE) (Z E : Int → Int) (ok : List Int → Bool) (vl : List Int → Int) (a b c d : Int) : evalFn Tryz.prog (orcQ (hTabZ N Z E ok vl)) noLoops 200 31 Tryz.f31 [.agg [.int .u32 a, .int .u32 b, .int .u32 c, .int .u32 d]] [] (fun v _ => some v) =
    bif N.inn a b c d then bif N.n.okI 9223372036854775807 then bif N.n.ok (N.n.D 9223372036854775807) && N.n.ok (N.dg a b c d) then bif N.n.lt (N.n.D 9223372036854775807) (N.dg a b c d) then some (.tuple [.int .i64 0, .int .i64 3]) else
      bif N.n.okV (N.dg a b c d) then some (.tuple [.int .i64 (N.n.val (N.dg a b c d)), .int .i64 0]) else none else none else none else none := by kernel_rfl
theorem out_D {n K : Nat} (h : n < 10 ^ K) (hK : K ≤ 999999) : outN ptZ ptE okP val (D n) = some (.tuple [nW (ptZ n), .int .i64 (ptE n)]) := by
  have := D_len_lt h
  unfold outN okP
  rw [isD_D, decide_eq_true (by omega), val_D]; rfl
theorem dg_nat {a b c d : Int} (h : inN a b c d = true) : ∃ n : Nat, nval a b c d = (n : Int) ∧ E0.dg a b c d = D n ∧ n < 340282366920938463463374607431768211456 ∧ E0.n.ok (D n) = true := by
  have hr := nval_range h
  refine ⟨(nval a b c d).toNat, by omega, rfl, by omega, ?_⟩
  exact okD_lt (by omega)
theorem radd_p {a b c d e f g h : Int} (hx : inN a b c d = true) (hy : inN e f g h = true) : FnPure Tryz.prog 69 (nat2 a b c d e f g h) (.tuple [nW (ptZ (nval a b c d + nval e f g h)), .int .i64 (ptE (nval a b c d + nval e f g h))]) := by
  refine fnPure_of_eval (N := 200) (orcQ_ok hTabZ_ok) mixed Tryz.func69 (by kernel_rfl) noLoops_ok ?_ rfl rfl
  rw [radd_eval, show E0.inn = inN from rfl, hx, hy]
  obtain ⟨m, hm, em, lm, km⟩ := dg_nat hx
  obtain ⟨n, hn, en, ln, kn⟩ := dg_nat hy
  rw [em, en, km, kn, hm, hn, show E0.n.sum = sumD from rfl]
  have hs : sumD (D m) (D n) = D (m + n) := by
    unfold sumD
    rw [val_D, val_D, show ((m : Int) + (n : Int)).toNat = m + n by omega]
  rw [hs, out_D (n := m + n) (K := 40) (Nat.lt_trans (show m + n < 2 * 340282366920938463463374607431768211456 by omega) (by decide)) (by decide), show ((m + n : Nat) : Int) = (m : Int) + (n : Int) by omega]
  rfl
theorem rcmp_p {a b c d e f g h : Int} (hx : inN a b c d = true) (hy : inN e f g h = true) : FnPure Tryz.prog 27 (nat2 a b c d e f g h) (.int .i64 (cmpI (nval a b c d) (nval e f g h))) := by
  refine fnPure_of_eval (N := 200) (orcQ_ok hTabZ_ok) mixed Tryz.func27 (by kernel_rfl) noLoops_ok ?_ rfl rfl
  rw [rcmp_eval, show E0.inn = inN from rfl, hx, hy]
  obtain ⟨m, hm, em, lm, km⟩ := dg_nat hx
  obtain ⟨n, hn, en, ln, kn⟩ := dg_nat hy
  rw [em, en, km, kn, hm, hn, show E0.n.lt = ltD from rfl]
  unfold ltD cmpI
  rw [val_D, val_D]
  cases decide ((m : Int) < (n : Int)) with
  | true => rfl
  | false => cases decide ((n : Int) < (m : Int)) <;> rfl
theorem rof_p {n : Int} (h : -9223372036854775808 ≤ n ∧ n < 9223372036854775808) : FnPure Tryz.prog 52 [.int .i64 n] (.tuple [nW (ofZ n), .int .i64 (ofE n)]) := by
  refine fnPure_of_eval (N := 200) (orcQ_ok hTabZ_ok) mixed Tryz.func52 (by kernel_rfl) noLoops_ok ?_ rfl rfl
  rw [rof_eval]
  unfold ofZ ofE
  by_cases h0 : n < 0
  · rw [decide_eq_true h0]; rfl
  · have k1 : E0.n.okI n = true := by rw [show E0.n.okI = okID from rfl]; unfold okID; rw [decide_eq_true (by omega)]
    rw [decide_eq_false h0, cond_false, k1, cond_true, show E0.n.D n = D n.toNat from rfl, out_D (n := n.toNat) (K := 19) (by omega) (by decide)]
    unfold ptZ ptE
    rw [decide_eq_true (show ((n.toNat : Nat) : Int) < 340282366920938463463374607431768211456 by omega), show ((n.toNat : Nat) : Int) = n by omega]; rfl
theorem rint_p {a b c d : Int} (hx : inN a b c d = true) : FnPure Tryz.prog 31 [.agg [.int .u32 a, .int .u32 b, .int .u32 c, .int .u32 d]] (.tuple [.int .i64 (intZ (nval a b c d)), .int .i64 (intE (nval a b c d))]) := by
  refine fnPure_of_eval (N := 200) (orcQ_ok hTabZ_ok) mixed Tryz.func31 (by kernel_rfl) noLoops_ok ?_ rfl rfl
  rw [rint_eval, show E0.inn = inN from rfl, hx]
  obtain ⟨m, hm, em, lm, km⟩ := dg_nat hx
  have k1 : E0.n.okI 9223372036854775807 = true := by rw [show E0.n.okI = okID from rfl]; unfold okID; rw [decide_eq_true (by omega)]
  have k2 : E0.n.D 9223372036854775807 = D 9223372036854775807 := rfl
  have k3 : E0.n.ok (D 9223372036854775807) = true := okD_lt (n := 9223372036854775807) (by omega)
  rw [em, km, hm, k1, k2, k3, show E0.n.lt = ltD from rfl, show E0.n.okV = okVD from rfl, show E0.n.val = val from rfl]
  unfold ltD okVD intZ intE
  rw [val_D, val_D, isD_D]
  by_cases hl : m < 9223372036854775808
  · rw [decide_eq_false (show ¬ ((9223372036854775807 : Nat) : Int) < (m : Int) by omega), decide_eq_true (show (m : Int) < 9223372036854775808 by omega)]; rfl
  · rw [decide_eq_true (show ((9223372036854775807 : Nat) : Int) < (m : Int) by omega), decide_eq_false (show ¬ (m : Int) < 9223372036854775808 by omega)]; rfl
end Go.Proofs.YtpalajfcffdhoaaGreatDoor.N2
