/- Chapter 2, the reference: parts. -/
import Derived.Test.YtnbfnoomhlamnaaGreatNaR12
namespace Go.Proofs.YtnbfnoomhlamnaaGreat.N2
open Go Go.Eng
structure NE where
  n : ND
  quo : List Int → List Int → List Int
  rem : List Int → List Int → List Int
  okQ : List Int → List Int → Bool
  most : List Int
  dg : Int → Int → Int → Int → List Int
  inn : Int → Int → Int → Int → Bool
def gDiv52 (N : NE) : List V → List Blk → Option (Bool × V × List Blk)
  | [.gs 0, .gs 1], [.rs _ 1 (.ints .i64 xs), .rs _ 1 (.ints .i64 ys)] => some (N.okQ xs ys, .tuple [.gs 4, .gs 3], [.dead, .grow false 3 1 (.ints .i64 (N.rem xs ys)), .grow true 3 1 (.ints .i64 (N.quo xs ys))])
  | _, _ => none
def gMost (N : NE) : List V → List Blk → Option (Bool × V × List Blk)
  | [], [] => some (true, .gs 0, [.grow true 3 1 (.ints .i64 N.most)])
  | _, _ => none
def gDigits (N : NE) : List V → List Blk → Option (Bool × V × List Blk)
  | [.agg [.int .u32 a, .int .u32 b, .int .u32 c, .int .u32 d]], [] => some (N.inn a b c d, .gs 0, [.grow false 3 1 (.ints .i64 (N.dg a b c d))])
  | _, _ => none
def hTabE (N : NE) : HTab := addH 62 (gDiv52 N) (addH 86 (gMost N) (addH 57 (gDigits N) (hTabD N.n)))
def domE : FuncId → Bool := fun f => Nat.beq f 62 || (Nat.beq f 86 || (Nat.beq f 57 || domD f))
noncomputable abbrev orcE (HT : HTab) (LL : FuncId → Loops) : Oracle := inl Tryz.prog ftab tabA LL 200 never domE (orElse domT (resOrc rTab) (hOrcP nrI HT)) 20
theorem orcE_ok {HT : HTab} (hT : HTabOk Tryz.prog HT) {LL : FuncId → Loops} (hL : ∀ f, loopsOk Tryz.prog (LL f)) : OracleOk Tryz.prog (orcE HT LL) := inl_ok (orElse_ok (resOrc_ok rTab_ok) (hOrcP_ok hT)) ftab_ok tabA_ok hL mixed 20
def dgD (a b c d : Int) : List Int := DD (nval a b c d)
def E0 : NE := ⟨D0, quoD, remD, dvC, D 340282366920938463463374607431768211456, dgD, inN⟩
theorem hTabE_ok : HTabOk Tryz.prog (hTabE E0) := by
  refine addH_ok ?_ (addH_ok ?_ (addH_ok ?_ hTabD_ok))
  · intro args h c v nb hq hc
    unfold gDiv52 at hq
    split at hq
    · rename_i n1 xs n2 ys
      cases hq; exact ⟨.of Tryz.func62 (by kernel_rfl), div52_fn n1 n2 hc⟩
    · cases hq
  · intro args h c v nb hq hc
    unfold gMost at hq
    split at hq
    · cases hq; exact ⟨.of Tryz.func86 (by kernel_rfl), most_fn⟩
    · cases hq
  · intro args h c v nb hq hc
    unfold gDigits at hq
    split at hq
    · cases hq; exact ⟨.of Tryz.func57 (by kernel_rfl), digits_fn hc⟩
    · cases hq
def keepV (v : V) (_ : List Blk) : Option V := some v
def ptC {α : Type} (N : NE) (a : List Int) (K : Option α) : Option α := bif N.okQ a (N.n.D 4294967296) then bif N.n.okV (N.rem a (N.n.D 4294967296)) then K else none else none
def ptQ (N : NE) (a : List Int) : List Int := N.quo a (N.n.D 4294967296)
def ptV (N : NE) (a : List Int) : V := .int .u32 (wr .u32 (N.n.val (N.rem a (N.n.D 4294967296))))
theorem parts_eval (n1 : Bool) (N : NE) (xs : List Int) : evalFn Tryz.prog (orcE (hTabE N) plainL) noLoops 200 59 Tryz.f59 [.gs 0] [.rs n1 1 (.ints .i64 xs)] keepV =
    bif N.n.ok xs && N.n.ok N.most then bif !N.n.lt xs N.most then some (.tuple [nW 0, .int .i64 3]) else ptC N xs (ptC N (ptQ N xs) (ptC N (ptQ N (ptQ N xs)) (ptC N (ptQ N (ptQ N (ptQ N xs)))
      (some (.tuple [.agg [ptV N xs, ptV N (ptQ N xs), ptV N (ptQ N (ptQ N xs)), ptV N (ptQ N (ptQ N (ptQ N xs)))], .int .i64 0]))))) else none := by cases n1 <;> kernel_rfl
def ptZ (z : Int) : Int := bif decide (z < 340282366920938463463374607431768211456) then z else 0
def ptE (z : Int) : Int := bif decide (z < 340282366920938463463374607431768211456) then 0 else 3
theorem pt_step {m : Nat} (hl : (D m).length ≤ 999999) : (∀ {α : Type} (K : Option α), ptC E0 (D m) K = K) ∧ ptQ E0 (D m) = D (m / 4294967296) ∧ ptV E0 (D m) = .int .u32 ((m % 4294967296 : Nat) : Int) := by
  have hDw : E0.n.D 4294967296 = D 4294967296 := rfl
  have hwl : (D 4294967296).length ≤ 10 := D_len_lt (by decide)
  have hr : E0.rem (D m) (D 4294967296) = D (m % 4294967296) := by
    rw [show E0.rem = remD from rfl]
    unfold remD
    rw [val_D, val_D]; rfl
  refine ⟨fun {α} K => ?_, ?_, ?_⟩
  · unfold ptC
    have k1 : E0.okQ (D m) (D 4294967296) = true := by
      rw [show E0.okQ = dvC from rfl]
      unfold dvC
      rw [isD_D, isD_D, val_D, decide_eq_true ⟨hl, by omega, by omega⟩]; rfl
    have k2 : E0.n.okV (D (m % 4294967296)) = true := by
      rw [show E0.n.okV = okVD from rfl]
      unfold okVD
      rw [isD_D, val_D, decide_eq_true (by omega)]; rfl
    rw [hDw, k1, hr, k2]; rfl
  · unfold ptQ
    rw [hDw, show E0.quo = quoD from rfl]
    unfold quoD
    rw [val_D, val_D]; rfl
  · unfold ptV
    rw [hDw, hr, show E0.n.val = val from rfl, val_D, wr32 (by omega) (by omega)]
theorem one_ro {n1 : Bool} {xs : List Int} : ∀ (b : Nat) blk, ([.rs n1 1 (.ints .i64 xs)] : List Blk)[b]? = some blk → blk.mine = false := by
  intro b blk hb
  match b, hb with
  | 0, hb => cases hb; rfl
  | _ + 1, hb => simp at hb
theorem parts_fn (n1 : Bool) {xs : List Int} (h : (isD xs && decide (xs.length ≤ 999999)) = true) : FnOK Tryz.prog 59 [.gs 0] [.rs n1 1 (.ints .i64 xs)] (.tuple [nW (ptZ (val xs)), .int .i64 (ptE (val xs))]) ([.rs n1 1 (.ints .i64 xs)] ++ []) := by
  have he := parts_eval n1 E0 xs
  simp only [Bool.and_eq_true, decide_eq_true_eq] at h
  obtain ⟨m, rfl⟩ := isD_eq h.1
  have hl := h.2
  have k1 : E0.n.ok (D m) = true := okD_D (m := m) (by omega)
  have k2 : E0.n.ok E0.most = true := len_D (n := 340282366920938463463374607431768211456) (K := 39) (by decide) (by decide)
  have k3 : E0.n.lt (D m) E0.most = decide ((m : Int) < 340282366920938463463374607431768211456) := by
    rw [show E0.n.lt = ltD from rfl, show E0.most = D 340282366920938463463374607431768211456 from rfl]
    unfold ltD
    rw [val_D, val_D]; rfl
  have key : evalFn Tryz.prog (orcE (hTabE E0) plainL) noLoops 200 59 Tryz.f59 [.gs 0] [.rs n1 1 (.ints .i64 (D m))] keepV = some (.tuple [nW (ptZ (m : Int)), .int .i64 (ptE (m : Int))]) := by
    rw [he, k1, k2, k3, Bool.and_self, cond_true]
    unfold ptZ ptE
    by_cases hlt : (m : Int) < 340282366920938463463374607431768211456
    · obtain ⟨a1, a2, a3⟩ := pt_step hl
      obtain ⟨b1, b2, b3⟩ := pt_step (m := m / 4294967296) (Nat.le_trans (D_mono (Nat.div_le_self _ _)) hl)
      obtain ⟨c1, c2, c3⟩ := pt_step (m := m / 4294967296 / 4294967296) (Nat.le_trans (D_mono (Nat.le_trans (Nat.div_le_self _ _) (Nat.div_le_self _ _))) hl)
      obtain ⟨d1, _, d3⟩ := pt_step (m := m / 4294967296 / 4294967296 / 4294967296) (Nat.le_trans (D_mono (Nat.le_trans (Nat.div_le_self _ _) (Nat.le_trans (Nat.div_le_self _ _) (Nat.div_le_self _ _)))) hl)
      rw [decide_eq_true hlt, Bool.not_true, cond_false, cond_true, cond_true, a1, a2, a3, b1, b2, b3, c1, c2, c3, d1, d3]
      unfold nW w0 w1 w2 w3
      rw [show ((m % 4294967296 : Nat) : Int) = (m : Int) % 4294967296 by omega, show ((m / 4294967296 % 4294967296 : Nat) : Int) = (m : Int) / 4294967296 % 4294967296 by omega, show ((m / 4294967296 / 4294967296 % 4294967296 : Nat) : Int) = (m : Int) / 18446744073709551616 % 4294967296 by omega, show ((m / 4294967296 / 4294967296 / 4294967296 % 4294967296 : Nat) : Int) = (m : Int) / 79228162514264337593543950336 % 4294967296 by omega]
    · rw [decide_eq_false hlt]; rfl
  obtain ⟨v1, h1, hk, hok⟩ := evalFn_ok (orcE_ok hTabE_ok plainL_ok) mixed Tryz.func59 noLoops_ok key
  simp only [keepV, Option.some.injEq] at hk
  subst hk
  rw [val_D, List.append_nil]
  exact hok.plain rfl one_ro
end Go.Proofs.YtnbfnoomhlamnaaGreat.N2
