/- Texts merged: ARMul, E9, E10. -/
import Derived.Test.YtpalajfcffdhoaaGreatDoorAR14
import Derived.Test.YtpalajfcffdhoaaGreatDoorANat6
import Derived.Test.YtpalajfcffdhoaaGreatDoorE6
/- Chapter 2, the reference: Mul of two. -/
namespace Go.Proofs.YtpalajfcffdhoaaGreatDoor.N2
open Go Go.Eng
theorem rmul_eval (N : NE) (Z E : Int → Int) (ok : List Int → Bool) (vl : List Int → Int) (a b c d e f g h : Int) : evalFn Tryz.prog (orcQ (hTabZ N Z E ok vl)) noLoops 200 86 Tryz.f86 [.gs 0] [.rs true 4 (.ints .u32 [a, b, c, d, e, f, g, h])] keepV =
    bif N.inn a b c d then bif N.n.ok [1] && N.n.ok (N.dg a b c d) then bif N.inn e f g h then bif N.n.ok (N.n.prod [1] (N.dg a b c d)) && N.n.ok (N.dg e f g h) then outN Z E ok vl (N.n.prod (N.n.prod [1] (N.dg a b c d)) (N.dg e f g h)) else none else none else none else none := by kernel_rfl
theorem row_ro {l : List Int} : ∀ (b : Nat) blk, ([.rs true 4 (.ints .u32 l)] : List Blk)[b]? = some blk → blk.mine = false := by
  intro b blk hb
  match b, hb with
  | 0, hb => cases hb; rfl
  | _ + 1, hb => simp at hb
theorem pt_mul (m n : Nat) : ptZ ((m * n : Nat) : Int) = mulZ (m : Int) (n : Int) ∧ ptE ((m * n : Nat) : Int) = mulE (m : Int) (n : Int) := by
  unfold ptZ ptE mulZ mulE
  rw [Int.natCast_mul]
  exact ⟨rfl, rfl⟩
theorem rmul_fn {a b c d e f g h : Int} (hx : inN a b c d = true) (hy : inN e f g h = true) :
    FnOK Tryz.prog 86 [.gs 0] [.rs true 4 (.ints .u32 [a, b, c, d, e, f, g, h])] (.tuple [nW (mulZ (nval a b c d) (nval e f g h)), .int .i64 (mulE (nval a b c d) (nval e f g h))]) [.rs true 4 (.ints .u32 [a, b, c, d, e, f, g, h])] := by
  have key : evalFn Tryz.prog (orcQ (hTabZ E0 ptZ ptE okP val)) noLoops 200 86 Tryz.f86 [.gs 0] [.rs true 4 (.ints .u32 [a, b, c, d, e, f, g, h])] keepV = some (.tuple [nW (mulZ (nval a b c d) (nval e f g h)), .int .i64 (mulE (nval a b c d) (nval e f g h))]) := by
    rw [rmul_eval, show E0.inn = inN from rfl, hx, hy]
    obtain ⟨m, hm, em, lm, km⟩ := dg_nat hx
    obtain ⟨n, hn, en, ln, kn⟩ := dg_nat hy
    have k1 : E0.n.ok [1] = true := by
      have : E0.n.ok (D 1) = true := okD_lt (n := 1) (by omega)
      exact this
    have p1 : E0.n.prod [1] (D m) = D m := by
      rw [show E0.n.prod = prodD from rfl, show ([1] : List Int) = D 1 from rfl, prodD_D, Nat.one_mul]
    have p2 : E0.n.prod (D m) (D n) = D (m * n) := by
      rw [show E0.n.prod = prodD from rfl, prodD_D]
    have hlt : m * n < 10 ^ 78 := Nat.lt_of_le_of_lt (Nat.mul_le_mul (Nat.le_of_lt lm) (Nat.le_of_lt ln)) (by decide)
    rw [em, en, k1, km, kn, p1, km, p2, out_D hlt (by decide), hm, hn, (pt_mul m n).1, (pt_mul m n).2]
    rfl
  obtain ⟨v1, h1, hk, hok⟩ := evalFn_ok (orcQ_ok hTabZ_ok) mixed Tryz.func86 noLoops_ok key
  simp only [keepV, Option.some.injEq] at hk
  subst hk
  exact hok.plain rfl row_ro
end Go.Proofs.YtpalajfcffdhoaaGreatDoor.N2

/- Chapter 6, the reference: product, Ways: formulas over names. -/
namespace Go.Proofs.YtpalajfcffdhoaaGreatDoor
open Go Go.Eng Go.Deal
structure EW where
  n : N6
  u4 : Int → Int → Int → Int → Bool
  lf : Int → Int → Int → Int → Int
  le : Int → Int → Int → Int → Int
  ma : Int → Int
  ck : Int → Int → Bool
  ch : Int → Int → Int
  ofk : Int → Bool
  of : Int → Int
  ofe : Int → Int
section
variable (E : EW)
def hTabR (N : N6) : HTab := addH 86 (gMul N) emptyH
def domR : FuncId → Bool := fun f => Nat.beq f 86
noncomputable abbrev orcR (N : N6) (T : PTab) : Oracle := inl Tryz.prog ftab T plainL 100 never domR (hOrcP nrN (hTabR N)) 20
def n44 (a b c d e f g h : Int) : List V := [.agg [.int .u32 a, .int .u32 b, .int .u32 c, .int .u32 d], .agg [.int .u32 e, .int .u32 f, .int .u32 g, .int .u32 h]]
theorem prod_eval (N : N6) (a b c d e f g h : Int) : evalFn Tryz.prog (orcR N emptyTab) noLoops 100 53 Tryz.f53 (n44 a b c d e f g h) [] (fun v _ => some v) =
    bif N.inn a b c d && N.inn e f g h then some (N.nW (N.mul (N.z a b c d) (N.z e f g h))) else none := by kernel_rfl
def wLf : List V → Option (Bool × V)
  | [.agg [.int .u64 a, .int .u64 b, .int .u64 c, .int .u64 d]] => some (E.u4 a b c d, .tuple [.int .u64 (E.lf a b c d), .int .i64 (E.le a b c d)])
  | _ => none
def wMa : List V → Option (Bool × V)
  | [.int .u64 m] => some (E.n.u m, .int .i64 (E.ma m))
  | _ => none
def wCh : List V → Option (Bool × V)
  | [.int .i64 n, .int .i64 k] => some (E.ck n k, .int .i64 (E.ch n k))
  | _ => none
def wOf : List V → Option (Bool × V)
  | [.int .i64 n] => some (E.ofk n, .tuple [E.n.nW (E.of n), .int .i64 (E.ofe n)])
  | _ => none
def tabW6 : PTab := addTab 13 (wLf E) (addTab 25 (wMa E) (addTab 32 (wCh E) (addTab 52 (wOf E) (addTab 53 (gTwo E.n fun x y => E.n.nW (E.n.mul x y)) emptyTab))))
noncomputable abbrev orcW6 : Oracle := orcN E.n (tabW6 E) plainL
def wlk (x : Int) : Int := wr .i64 (13 - E.ma x)
def wyS (n out l : Int) (K : Int → Int → Option V) : Option V :=
  bif E.ck n l then bif E.ofk (E.ch n l) then bif E.n.i out && E.n.i (E.of (E.ch n l)) then K (wr .i64 (n - l)) (E.n.mul (E.n.q out) (E.n.q (E.of (E.ch n l)))) else none else none else none
def wyF (a b c d m : Int) : Option V := bif E.n.u m then bif E.n.u a then bif E.n.u b then bif E.n.u c then bif E.n.u d then bif E.ofk 1 then
  wyS E (E.ma m) (E.of 1) (wlk E a) fun n o => wyS E n o (wlk E b) fun n o => wyS E n o (wlk E c) fun n o => wyS E n o (wlk E d) fun _ o => some (.tuple [E.n.nW o, .int .i64 0])
  else none else none else none else none else none else none
theorem rways_eval (a b c d : Int) : evalFn Tryz.prog (orcW6 E) noLoops 100 6 Tryz.f6 [q4 a b c d] [] (fun v _ => some v) =
    bif E.u4 a b c d then bif !decide (E.le a b c d = 0) then some (.tuple [zeroN, .int .i64 (E.le a b c d)]) else wyF E a b c d (E.lf a b c d) else none := by kernel_rfl
end
end Go.Proofs.YtpalajfcffdhoaaGreatDoor

/- Chapter 6, the reference: product, Ways: their contracts. -/
namespace Go.Proofs.YtpalajfcffdhoaaGreatDoor
open Go Go.Eng Go.Deal
theorem hTabR_ok : HTabOk Tryz.prog (hTabR n6) := by
  refine addH_ok ?_ emptyH_ok
  intro args h c v nb hq hc
  unfold gMul at hq
  split at hq
  · cases hq
    rw [Bool.and_eq_true] at hc
    exact ⟨.of Tryz.func86 (by kernel_rfl), by rw [List.append_nil]; exact N2.rmul_fn hc.1 hc.2⟩
  · cases hq
theorem orcR_ok {T : PTab} (hT : PTabOk Tryz.prog T) : OracleOk Tryz.prog (orcR n6 T) := inl_ok (hOrcP_ok hTabR_ok) ftab_ok hT plainL_ok mixed 20
theorem prod_p {a b c d e f g h : Int} (hx : n6.inn a b c d = true) (hy : n6.inn e f g h = true) : FnPure Tryz.prog 53 (n44 a b c d e f g h) (n6.nW (n6.mul (n6.z a b c d) (n6.z e f g h))) := by
  refine fnPure_of_eval (N := 100) (orcR_ok emptyTab_ok) mixed Tryz.func53 (by kernel_rfl) noLoops_ok ?_ rfl rfl
  rw [prod_eval, hx, hy]; rfl
def ofK (n : Int) : Bool := decide (-9223372036854775808 ≤ n ∧ n < 9223372036854775808)
noncomputable def eW : EW := ⟨n6, in4, lfI, leI, maI, bcK, bcI, ofK, N2.ofZ, N2.ofE⟩
theorem tabW6_ok : PTabOk Tryz.prog (tabW6 eW) := by
  refine addTab_ok ?_ (addTab_ok ?_ (addTab_ok ?_ (addTab_ok ?_ (addTab_ok ?_ emptyTab_ok))))
  · intro args c v h hc
    unfold wLf at h; split at h
    · cases h; exact rleft_p hc
    · cases h
  · intro args c v h hc
    unfold wMa at h; split at h
    · cases h; exact many_p hc
    · cases h
  · intro args c v h hc
    unfold wCh at h; split at h
    · cases h; exact choose_p hc
    · cases h
  · intro args c v h hc
    unfold wOf at h; split at h
    · cases h
      have hc : ofK _ = true := hc
      unfold ofK at hc
      rw [decide_eq_true_eq] at hc
      exact N2.rof_p hc
    · cases h
  · intro args c v h hc
    unfold gTwo at h; split at h
    · cases h
      rw [Bool.and_eq_true] at hc
      exact prod_p hc.1 hc.2
    · cases h
theorem orcW6_ok : OracleOk Tryz.prog (orcW6 eW) := orcN_ok tabW6_ok plainL_ok
theorem bcI_n (n k : Nat) : bcI (n : Int) (k : Int) = ((bc n k : Nat) : Int) := by unfold bcI; rw [Int.toNat_natCast, Int.toNat_natCast]
theorem bcK_n {n : Nat} (k : Nat) (hn : n ≤ 52) : bcK (n : Int) (k : Int) = true := by unfold bcK; rw [decide_eq_true_eq]; omega
theorem ofK_n {n : Nat} (hn : n < 4503599627370497) : ofK (n : Int) = true := by unfold ofK; rw [decide_eq_true_eq]; omega
theorem ofZ_n (n : Nat) : N2.ofZ (n : Int) = (n : Int) := by unfold N2.ofZ; rw [decide_eq_false (by omega)]; rfl
theorem eWck (n k : Int) : eW.ck n k = bcK n k := rfl
theorem eWch (n k : Int) : eW.ch n k = bcI n k := rfl
theorem eWok (n : Int) : eW.ofk n = ofK n := rfl
theorem eWof (n : Int) : eW.of n = N2.ofZ n := rfl
theorem eWn : eW.n = n6 := rfl
theorem eWma (n : Int) : eW.ma n = maI n := rfl
theorem eWu4 (a b c d : Int) : eW.u4 a b c d = in4 a b c d := rfl
theorem eWle (a b c d : Int) : eW.le a b c d = leI a b c d := rfl
theorem eWlf (a b c d : Int) : eW.lf a b c d = lfI a b c d := rfl
theorem eWu (x : Int) : eW.n.u x = in64 x := rfl
theorem wyS_n {n out l : Nat} (hn : n ≤ 52) (hl : l ≤ n) (ho : out < 340282366920938463463374607431768211456) (hp : out * bc n l < 340282366920938463463374607431768211456) (K : Int → Int → Option V) : wyS eW (n : Int) (out : Int) (l : Int) K = K ((n - l : Nat) : Int) ((out * bc n l : Nat) : Int) := by
  have b1 := bc_52 (n := n) (k := l) hn
  unfold wyS
  rw [eWck, bcK_n l hn, cond_true, eWch, bcI_n, eWok, ofK_n b1, cond_true, eWof, ofZ_n, eWn, ii, ii, Bool.and_true, cond_true, qq ho, qq (Nat.lt_trans b1 (by decide)), mulq hp, wr64 (by omega) (by omega), show (n : Int) - (l : Int) = ((n - l : Nat) : Int) by omega]
theorem wlk_n {x : Nat} (h : cnt x 52 ≤ 13) : wlk eW (x : Int) = ((lk x : Nat) : Int) := by
  unfold wlk lk
  rw [eWma, maI_n, wr64 (by omega) (by omega)]; omega
theorem rways_p {a b c d : Int} (h : in4 a b c d = true) : FnPure Tryz.prog 6 [q4 a b c d] (.tuple [n6.nW (wyI a b c d), .int .i64 (leI a b c d)]) := by
  have h4 := h
  obtain ⟨a, b, c, d, rfl, rfl, rfl, rfl, ha, hb, hc, hd⟩ := in4_nat h
  refine fnPure_of_eval (N := 100) orcW6_ok mixed Tryz.func6 (by kernel_rfl) noLoops_ok ?_ rfl rfl
  refine (rways_eval eW _ _ _ _).trans ?_
  rw [eWu4, h4, cond_true, eWle, eWlf]
  unfold wyI leI lfI
  cases hp : parB (a : Int) b c d with
  | false => rfl
  | true =>
    rw [cond_true, cond_true, cond_true]
    have P := parB_iff.1 hp
    have u : ∀ {x : Nat}, x < 18446744073709551616 → eW.n.u (x : Int) = true := fun hx => by rw [eWu]; exact in64_iff.2 ⟨by omega, by omega⟩
    have hlf : lf a b c d < 18446744073709551616 := Nat.lt_trans P.lf_lt (by decide)
    rw [Int.toNat_natCast, Int.toNat_natCast, Int.toNat_natCast, Int.toNat_natCast]
    have z : (!decide ((0 : Int) = 0)) = false := by decide
    rw [z, cond_false]
    unfold wyF
    rw [u hlf, u ha, u hb, u hc, u hd, cond_true, cond_true, cond_true, cond_true, cond_true, eWok, show ofK 1 = true from ofK_n (n := 1) (by decide), cond_true, eWof, show N2.ofZ 1 = ((1 : Nat) : Int) from ofZ_n 1, eWma, maI_n, P.lf_cnt, wlk_n P.ca, wlk_n P.cb, wlk_n P.cc, wlk_n P.cd]
    have q1 : lk a ≤ 13 := by unfold lk; omega
    have q2 : lk b ≤ 13 := by unfold lk; omega
    have q3 : lk c ≤ 13 := by unfold lk; omega
    have q4 : lk d ≤ 13 := by unfold lk; omega
    have es : sm (lks a b c d) = lk a + (lk b + (lk c + (lk d + 0))) := rfl
    have m1 : 1 * bc (sm (lks a b c d)) (lk a) ≤ 2 ^ 52 := by rw [Nat.one_mul]; exact Nat.le_trans (bc_le _ _) (Nat.pow_le_pow_right (by decide) (by omega))
    have m2 : 1 * bc (sm (lks a b c d)) (lk a) * bc (sm (lks a b c d) - lk a) (lk b) ≤ 2 ^ 91 := Nat.le_trans (Nat.mul_le_mul m1 (Nat.le_trans (bc_le _ _) (Nat.pow_le_pow_right (show 2 > 0 by decide) (show sm (lks a b c d) - lk a ≤ 39 by omega)))) (by decide)
    have m4 : 1 * bc (sm (lks a b c d)) (lk a) * bc (sm (lks a b c d) - lk a) (lk b) * bc (sm (lks a b c d) - lk a - lk b) (lk c) ≤ 2 ^ 117 := Nat.le_trans (Nat.mul_le_mul m2 (Nat.le_trans (bc_le _ _) (Nat.pow_le_pow_right (show 2 > 0 by decide) (show sm (lks a b c d) - lk a - lk b ≤ 26 by omega)))) (by decide)
    have last : sm (lks a b c d) - lk a - lk b - lk c = lk d := by omega
    have k1 : (2 : Nat) ^ 52 < 340282366920938463463374607431768211456 := by decide
    have k2 : (2 : Nat) ^ 91 < 340282366920938463463374607431768211456 := by decide
    have k3 : (2 : Nat) ^ 117 < 340282366920938463463374607431768211456 := by decide
    have f1 := Nat.lt_of_le_of_lt m1 k1
    have f2 := Nat.lt_of_le_of_lt m2 k2
    have f3 := Nat.lt_of_le_of_lt m4 k3
    rw [wyS_n (by omega) (by omega) (by decide) f1, wyS_n (by omega) (by omega) f1 f2, wyS_n (by omega) (by omega) f2 f3, last]
    rw [wyS_n (n := lk d) (by omega) (Nat.le_refl _) f3 (by rw [bc_self, Nat.mul_one]; exact f3)]
    have r : ((1 * bc (sm (lks a b c d)) (lk a) * bc (sm (lks a b c d) - lk a) (lk b) * bc (sm (lks a b c d) - lk a - lk b) (lk c) * bc (lk d) (lk d) : Nat) : Int) = o0 (a : Int) b c d := by
      unfold o0
      rw [Int.toNat_natCast, Int.toNat_natCast, Int.toNat_natCast, Int.toNat_natCast]
      have x1 : sm (lks a b c d) - lk a = lk b + sm [lk c, lk d] := by rw [es]; show _ = lk b + (lk c + (lk d + 0)); omega
      have x2 : sm (lks a b c d) - lk a - lk b = lk c + sm [lk d] := by rw [es]; show _ = lk c + (lk d + 0); omega
      rw [x2, x1]
      have x3 : wy (lks a b c d) = bc (lk a + sm [lk b, lk c, lk d]) (lk a) * (bc (lk b + sm [lk c, lk d]) (lk b) * (bc (lk c + sm [lk d]) (lk c) * (bc (lk d + sm []) (lk d) * 1))) := rfl
      have x4 : sm (lks a b c d) = lk a + sm [lk b, lk c, lk d] := rfl
      rw [x3, x4, show lk d + sm [] = lk d from rfl, Nat.one_mul, Nat.mul_one, Nat.mul_assoc, Nat.mul_assoc]
    rw [r, eWn]
end Go.Proofs.YtpalajfcffdhoaaGreatDoor
