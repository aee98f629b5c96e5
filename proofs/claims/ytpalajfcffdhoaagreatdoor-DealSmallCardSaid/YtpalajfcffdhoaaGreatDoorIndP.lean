/- Texts merged: IndP, Bcf, Aw, KBase. -/
import Derived.Test.YtpalajfcffdhoaaGreatDoorCplP
import Derived.Test.YtpalajfcffdhoaaGreatDoorDm5
/- Chapter 6: Index: its contract. -/
namespace Go.Proofs.YtpalajfcffdhoaaGreatDoor
open Go Go.Eng Go.Deal
theorem nd_zero {a b : Nat} : nd a b = 0 ↔ Sub a b := by
  constructor
  · intro h i hi
    cases hb : b.testBit i with
    | true => rfl
    | false =>
      have : (nd a b).testBit i = true := by rw [nd_bit, hi, hb]; rfl
      rw [h, Nat.zero_testBit] at this; cases this
  · intro h
    refine Nat.eq_of_testBit_eq fun i => ?_
    rw [nd_bit, Nat.zero_testBit]
    cases ha : a.testBit i with
    | false => rfl
    | true => rw [h i ha]; rfl
noncomputable def ixC (a b c d x y z w : Int) : Bool := @decide (Sub a.toNat x.toNat ∧ Sub b.toNat y.toNat ∧ Sub c.toNat z.toNat ∧ Sub d.toNat w.toNat) (Classical.propDecidable _)
theorem ixC_iff {a b c d x y z w : Nat} : ixC a b c d x y z w = true ↔ Sub a x ∧ Sub b y ∧ Sub c z ∧ Sub d w :=
  @decide_eq_true_iff (Sub (a : Int).toNat (x : Int).toNat ∧ Sub (b : Int).toNat (y : Int).toNat ∧ Sub (c : Int).toNat (z : Int).toNat ∧ Sub (d : Int).toNat (w : Int).toNat) (Classical.propDecidable _)
def ixN (a b c d x y z w : Nat) : Nat := idx [nd x a, nd y b, nd z c, nd w d] (lf a b c d)
noncomputable def ixI (a b c d x y z w : Int) : Int := bif parB a b c d && (rgB x y z w && ixC a b c d x y z w) then ((ixN a.toNat b.toNat c.toNat d.toNat x.toNat y.toNat z.toNat w.toNat : Nat) : Int) else 0
noncomputable def ixE (a b c d x y z w : Int) : Int := bif parB a b c d && rgB x y z w then bif ixC a b c d x y z w then 0 else 6 else 60
theorem rgB_iff {a b c d : Nat} : rgB a b c d = true ↔ RightD a b c d := by
  unfold rgB
  rw [Bool.and_eq_true, parB_iff, decide_eq_true_eq, Int.toNat_natCast, Int.toNat_natCast, Int.toNat_natCast, Int.toNat_natCast]
  exact ⟨fun h => h.1.right h.2, fun h => ⟨h.toPartD, h.all⟩⟩
theorem assoc4 (p q r s : Nat) : p + (q + (r + (s + 0))) = 0 + p + q + r + s := by omega
theorem idx_p {a b c d x y z w : Int} (h1 : in4 a b c d = true) (h2 : in4 x y z w = true) : FnPure Tryz.prog 35 [q4 a b c d, q4 x y z w] (.tuple [n6.nW (ixI a b c d x y z w), .int .i64 (ixE a b c d x y z w)]) := by
  obtain ⟨a, b, c, d, rfl, rfl, rfl, rfl, ha, hb, hc, hd⟩ := in4_nat h1
  obtain ⟨x, y, z, w, rfl, rfl, rfl, rfl, hx, hy, hz, hw⟩ := in4_nat h2
  refine fnPure_of_eval (N := 100) (orcE_ok plainL_ok) mixed Tryz.func35 (by kernel_rfl) noLoops_ok ?_ rfl rfl
  refine (idx_eval d6 _ _ _ _ _ _ _ _).trans ?_
  have hz0 : n6.nW 0 = zeroN := rfl
  rw [u4_n ha hb hc hd, u4_n hx hy hz hw, show d6.pb = parB from rfl, cond_true, cond_true, (unI_n hx hy hz hw).1, anI_n ha hx, anI_n hb hy, anI_n hc hz, anI_n hd hw]
  have e : decide (((un x y z w : Nat) : Int) = 4503599627370495) = decide (un x y z w = AL) := by
    by_cases q : un x y z w = AL
    · rw [decide_eq_true q, q]; rfl
    · rw [decide_eq_false q, decide_eq_false (fun h => q (by unfold AL; omega))]
  rw [e]
  unfold ixI ixE
  have hrg : rgB (x : Int) (y : Int) (z : Int) (w : Int) = (parB (x : Int) (y : Int) (z : Int) (w : Int) && decide (un x y z w = AL)) := rfl
  cases hp : parB (a : Int) (b : Int) (c : Int) (d : Int) with
  | false => rfl
  | true =>
    cases hq : parB (x : Int) (y : Int) (z : Int) (w : Int) with
    | false => rw [hrg, hq]; rfl
    | true =>
      by_cases hu : un x y z w = AL
      · have hr : rgB (x : Int) (y : Int) (z : Int) (w : Int) = true := by rw [hrg, hq, decide_eq_true hu]; rfl
        rw [hr, decide_eq_true hu]
        have zd : ∀ {p q : Nat}, decide (((nd p q : Nat) : Int) = 0) = true ↔ Sub p q := fun {p q} => by
          rw [decide_eq_true_eq, ← nd_zero]; omega
        by_cases g : Sub a x ∧ Sub b y ∧ Sub c z ∧ Sub d w
        · rw [ixC_iff.2 g, zd.2 g.1, zd.2 g.2.1, zd.2 g.2.2.1, zd.2 g.2.2.2]
          have P := parB_iff.1 hp
          have R := rgB_iff.1 hr
          obtain ⟨G, hcs⟩ := RightD.good R g.1 g.2.1 g.2.2.1 g.2.2.2
          have hlt := idx_lt G (by rw [hcs]; exact P.lf_cnt)
          obtain ⟨f0, f1, f2, f3⟩ := wy_four (a := lk a) (b := lk b) (c := lk c) (d := lk d) (by unfold lk; omega) (by unfold lk; omega) (by unfold lk; omega) (by unfold lk; omega)
          have hcs' : cs [nd x a, nd y b, nd z c, nd w d] = [lk a, lk b, lk c, lk d] := hcs
          rw [hcs'] at hlt
          simp only [cs, List.cons.injEq, and_true] at hcs'
          obtain ⟨k0, k1, k2, k3⟩ := hcs'
          obtain ⟨s0, l0, s1, l1, s2, l2, s3, l3, _⟩ := G
          have hN : ixN a b c d x y z w = rank (lf a b c d) (nd x a) 52 * wy [lk b, lk c, lk d] + (rank (nd (lf a b c d) (nd x a)) (nd y b) 52 * wy [lk c, lk d] +
              (rank (nd (nd (lf a b c d) (nd x a)) (nd y b)) (nd z c) 52 * 1 + (rank (nd (nd (nd (lf a b c d) (nd x a)) (nd y b)) (nd z c)) (nd w d) 52 * 1 + 0))) := by
            unfold ixN
            simp only [idx, cs]
            rw [k1, k2, k3, f3]
            rfl
          have hlt' : ixN a b c d x y z w < 2 ^ 117 := Nat.lt_of_lt_of_le hlt f0
          rw [hN] at hlt'
          have hu1 : d6.o1 (a : Int) (b : Int) (c : Int) (d : Int) = ((wy [lk b, lk c, lk d] : Nat) : Int) := rfl
          have hu2 : d6.o2 (a : Int) (b : Int) (c : Int) (d : Int) = ((wy [lk c, lk d] : Nat) : Int) := rfl
          have L0 := P.lf_lt
          have L1 := sub_lt (nd_sub (lf a b c d) (nd x a)) L0
          have L2 := sub_lt (nd_sub (nd (lf a b c d) (nd x a)) (nd y b)) L1
          have L3 := sub_lt (nd_sub (nd (nd (lf a b c d) (nd x a)) (nd y b)) (nd z c)) L2
          rw [Bool.not_true, cond_false, cond_true, cond_false, cond_false, cond_false, cond_false, cond_false, Bool.and_self, cond_true]
          rw [hu1, hu2, show d6.n = n6 from rfl, show n6.z 1 0 0 0 = ((1 : Nat) : Int) from smallz 1, show n6.inn 1 0 0 0 = true from smalli (x := 1) (by decide), show n6.z 0 0 0 0 = ((0 : Nat) : Int) from smallz 0, show n6.inn 0 0 0 0 = true from smalli (x := 0) (by decide),
            ii, ii, qq (by omega), qq (by omega), lfF_n ha hb hc hd]
          rw [ixS_ok R.la P.la L0 s0 (by omega)]
          rw [ii, qq (by omega), ixS_ok R.lb P.lb L1 s1 (by omega)]
          rw [ii, qq (by omega), ixS_ok R.lc P.lc L2 s2 (by omega)]
          rw [ii, qq (by omega), ixS_ok R.ld P.ld L3 s3 (by omega)]
          rw [Int.toNat_natCast, Int.toNat_natCast, Int.toNat_natCast, Int.toNat_natCast, Int.toNat_natCast, Int.toNat_natCast, Int.toNat_natCast, Int.toNat_natCast, hN, assoc4]
          rfl
        · rw [Bool.eq_false_iff.2 (fun h => g (ixC_iff.1 h))]
          by_cases g1 : Sub a x
          · rw [zd.2 g1]
            by_cases g2 : Sub b y
            · rw [zd.2 g2]
              by_cases g3 : Sub c z
              · rw [zd.2 g3, Bool.eq_false_iff.2 (fun h => g ⟨g1, g2, g3, zd.1 h⟩)]; rfl
              · rw [Bool.eq_false_iff.2 (fun h => g3 (zd.1 h))]; rfl
            · rw [Bool.eq_false_iff.2 (fun h => g2 (zd.1 h))]; rfl
          · rw [Bool.eq_false_iff.2 (fun h => g1 (zd.1 h))]; rfl
      · rw [hrg, hq, decide_eq_false hu]; rfl
end Go.Proofs.YtpalajfcffdhoaaGreatDoor

/- Chapter 6, plainly: choices, quickly reckoned. -/
namespace Go.Deal
def bcF (n k : Nat) : Nat := if n < k then 0 else fct n / (fct k * fct (n - k))
theorem bc_F (n k : Nat) : bc n k = bcF n k := by
  unfold bcF
  by_cases h : n < k
  · rw [if_pos h, bc_big h]
  · have e := bc_fct k (n - k)
    rw [show k + (n - k) = n by omega] at e
    rw [if_neg h, ← e]
    exact (Nat.mul_div_cancel _ (Nat.mul_pos (fct_pos _) (fct_pos _))).symm
def pickF (m : Nat) : Nat → Nat → Nat → Nat
  | 0, _, _ => 0
  | n + 1, k, i => bif m.testBit n then
      (bif Nat.beq k 0 then 0 else bif Nat.blt i (bcF (cnt m n) k) then pickF m n k i else 2 ^ n + pickF m n (k - 1) (i - bcF (cnt m n) k))
    else pickF m n k i
theorem pick_F (m : Nat) : ∀ n k i, pick m n k i = pickF m n k i
  | 0, _, _ => rfl
  | n + 1, k, i => by
    simp only [pick, pickF]
    rw [pick_F m n, pick_F m n, bc_F]
    cases m.testBit n with
    | false => rfl
    | true =>
      by_cases hk : k = 0
      · subst hk; rfl
      · rw [if_pos rfl, if_neg hk, cond_true, show Nat.beq k 0 = false from Bool.eq_false_iff.2 (fun q => hk (Nat.eq_of_beq_eq_true q)), cond_false]
        by_cases h : i < bcF (cnt m n) k
        · rw [if_pos h, show Nat.blt i (bcF (cnt m n) k) = true from (by rw [Nat.blt_eq]; exact h)]; rfl
        · rw [if_neg h, show Nat.blt i (bcF (cnt m n) k) = false from Bool.eq_false_iff.2 (fun q => h (by rw [Nat.blt_eq] at q; exact q))]; rfl
def wyF : List Nat → Nat
  | [] => 1
  | l :: r => bcF (l + sm r) l * wyF r
theorem wy_F : ∀ l, wy l = wyF l
  | [] => rfl
  | l :: r => by rw [wy, wyF, wy_F r, bc_F]
def compF : List Nat → Nat → Nat → List Nat
  | [], _, _ => []
  | l :: r, m, n => pickF m 52 l (n / wyF r) :: compF r (nd m (pickF m 52 l (n / wyF r))) (n % wyF r)
theorem comp_F : ∀ (l : List Nat) (m n : Nat), comp l m n = compF l m n
  | [], _, _ => rfl
  | l :: r, m, n => by simp only [comp, compF]; rw [comp_F r, pick_F, wy_F]
end Go.Deal

/- Chapter 6: the examples hold. -/
namespace Go.Proofs.YtpalajfcffdhoaaGreatDoor
open Go Go.Eng Go.Deal
def eq4 (a b c d x y z w : Int) : Bool := decide (a = x) && (decide (b = y) && (decide (c = z) && decide (d = w)))
theorem eq4_iff {a b c d x y z w : Int} : eq4 a b c d x y z w = true ↔ a = x ∧ b = y ∧ c = z ∧ d = w := by
  unfold eq4; simp only [Bool.and_eq_true, decide_eq_true_eq]
def nL (z : Int) : V := .agg [.int .u32 (N2.w0 z), .int .u32 (N2.w1 z), .int .u32 (N2.w2 z), .int .u32 (N2.w3 z)]
def allW : Int := 53644737765488792839237440000
def gWaysL : List V → Option (Bool × V)
  | [.agg [.int .u64 a, .int .u64 b, .int .u64 c, .int .u64 d]] => bif eq4 a b c d 0 0 0 0 then some (true, .tuple [nL allW, .int .i64 0]) else
      bif eq4 a b c d 8190 2251250057871360 549688705024 67100672 then some (true, .tuple [nL 2, .int .i64 0]) else none
  | _ => none
def gParL : List V → Option (Bool × V)
  | [.agg [.int .u64 a, .int .u64 b, .int .u64 c, .int .u64 d]] => bif eq4 a b c d 8191 67100672 824566611968 4502774993649664 then some (true, .bool true) else none
  | _ => none
def gCplL : List V → Option (Bool × V)
  | [.agg [.int .u64 a, .int .u64 b, .int .u64 c, .int .u64 d], .agg [.int .u32 e, .int .u32 f, .int .u32 g, .int .u32 h]] =>
    bif eq4 a b c d 0 0 0 0 then
      bif eq4 e f g h 0 0 0 0 then some (true, .tuple [q4 8191 67100672 549688705024 4503049871556608, .int .i64 0]) else
      bif eq4 e f g h 1 0 0 0 then some (true, .tuple [q4 8191 67100672 824566611968 4502774993649664, .int .i64 0]) else
      bif eq4 e f g h (N2.w0 (allW - 1)) (N2.w1 (allW - 1)) (N2.w2 (allW - 1)) (N2.w3 (allW - 1)) then some (true, .tuple [q4 4503049871556608 549688705024 67100672 8191, .int .i64 0]) else
      bif eq4 e f g h (N2.w0 allW) (N2.w1 allW) (N2.w2 allW) (N2.w3 allW) then some (true, .tuple [q4 0 0 0 0, .int .i64 6]) else none
    else bif eq4 a b c d 8190 2251250057871360 549688705024 67100672 then
      bif eq4 e f g h 0 0 0 0 then some (true, .tuple [q4 8191 4503049871556608 549688705024 67100672, .int .i64 0]) else none
    else none
  | _ => none
def tabL : PTab := addTab 14 gWaysL (addTab 20 gParL (addTab 34 gCplL (tabN n6)))
end Go.Proofs.YtpalajfcffdhoaaGreatDoor

/- Chapter 6: Join, Suit and Rank known by their contracts. -/
namespace Go.Proofs.YtpalajfcffdhoaaGreatDoor
open Go Go.Eng Go.Deal
def gJoin : List V → List Blk → Option (Bool × V × List Blk)
  | [.gs 0, .str sep], [.rs _ 1 (.strs xs)] => some (decide (xs.length ≤ 140737488355328) && decide (joinLen xs sep ≤ 140737488355328), .str (joinS xs sep), [])
  | _, _ => none
def hTabK (N : N6) : HTab := addH 47 gJoin (hTabN N)
def domK : FuncId → Bool := fun f => Nat.beq f 66 || Nat.beq f 47
theorem hTabK_ok : HTabOk Tryz.prog (hTabK n6) := by
  refine addH_ok ?_ hTabN_ok
  intro args h c v nb hq hc
  unfold gJoin at hq
  split at hq
  · cases hq
    simp only [Bool.and_eq_true, decide_eq_true_eq] at hc
    exact ⟨.of Tryz.func47 (by kernel_rfl), by rw [List.append_nil]; exact join_fn Tryz.strings_Join Tryz.strings_Join_none hc.1 hc.2⟩
  · cases hq
noncomputable abbrev orcK (N : N6) (T : PTab) (LL : FuncId → Loops) : Oracle := inl Tryz.prog ftab T LL 100 never domK (hOrcP nrN (hTabK N)) 20
theorem orcK_ok {T : PTab} (hT : PTabOk Tryz.prog T) {LL : FuncId → Loops} (hL : ∀ f, loopsOk Tryz.prog (LL f)) : OracleOk Tryz.prog (orcK n6 T LL) := inl_ok (hOrcP_ok hTabK_ok) ftab_ok hT hL mixed 20
def suitI (c : Int) : Int := bif decide (c < 52) then wr .u8 (c.tdiv 13) else 0
def rankI (c : Int) : Int := bif decide (c < 52) then c.tmod 13 else 0
theorem suit_eval (N : N6) (c : Int) : evalFn Tryz.prog (orcN N (tabN N) plainL) noLoops 100 81 Tryz.f81 [.int .u8 c] [] (fun v _ => some v) = bif !decide (c < 52) then some (.int .u8 0) else some (.int .u8 (wr .u8 (c.tdiv 13))) := by kernel_rfl
theorem rank_eval (N : N6) (c : Int) : evalFn Tryz.prog (orcN N (tabN N) plainL) noLoops 100 82 Tryz.f82 [.int .u8 c] [] (fun v _ => some v) = bif !decide (c < 52) then some (.int .u8 0) else some (.int .u8 (c.tmod 13)) := by kernel_rfl
def gSuit : List V → Option (Bool × V)
  | [.int .u8 c] => some (true, .int .u8 (suitI c))
  | _ => none
def gRank : List V → Option (Bool × V)
  | [.int .u8 c] => some (true, .int .u8 (rankI c))
  | _ => none
def addK (T : PTab) : PTab := addTab 81 gSuit (addTab 82 gRank T)
theorem addK_ok {T : PTab} (hT : PTabOk Tryz.prog T) : PTabOk Tryz.prog (addK T) := by
  refine addTab_ok ?_ (addTab_ok ?_ hT)
  · intro args c v h _
    unfold gSuit at h
    split at h
    · cases h
      refine fnPure_of_eval (N := 100) (orcN_ok tabN_ok plainL_ok) mixed Tryz.func81 (by kernel_rfl) noLoops_ok ?_ rfl rfl
      rw [suit_eval]; unfold suitI
      rename_i c _; cases decide (c < 52) <;> rfl
    · cases h
  · intro args c v h _
    unfold gRank at h
    split at h
    · cases h
      refine fnPure_of_eval (N := 100) (orcN_ok tabN_ok plainL_ok) mixed Tryz.func82 (by kernel_rfl) noLoops_ok ?_ rfl rfl
      rw [rank_eval]; unfold rankI
      rename_i c _; cases decide (c < 52) <;> rfl
    · cases h
noncomputable abbrev evK (f : FuncId) (fn : Func) (args : List V) : Option V := evalFn Tryz.prog (orcK n6 (addK tabL) plainL) noLoops 100 f fn args [] (fun v _ => some v)
end Go.Proofs.YtpalajfcffdhoaaGreatDoor
