/- Texts merged: Bcf, Aw, KBase. -/
import Derived.Test.YtpalajfcffdhoaaDm5
import Derived.Test.YtpalajfcffdhoaaIndP
/- Chapter 6, plainly: choices, quickly reckoned. -/
namespace Go.Deal
def bcF (n k : Nat) : Nat := if n < k then 0 else fct n / (fct k * fct (n - k))
theorem bc_F (n k : Nat) : bc n k = bcF n k := by
  unfold bcF
  by_cases h : n < k
  · rw [if_pos h, bc_big h]
  · have e := bc_fct k (n - k)
    rw [show k + (n - k) = n by omega] at e
    rw [if_neg h, ← e]
    exact (Nat.mul_div_cancel _ (Nat.mul_pos (fct_pos _) (fct_pos _))).symm
def pickF (m : Nat) : Nat → Nat → Nat → Nat
  | 0, _, _ => 0
  | n + 1, k, i => bif m.testBit n then
      (bif Nat.beq k 0 then 0 else bif Nat.blt i (bcF (cnt m n) k) then pickF m n k i else 2 ^ n + pickF m n (k - 1) (i - bcF (cnt m n) k))
    else pickF m n k i
theorem pick_F (m : Nat) : ∀ n k i, pick m n k i = pickF m n k i
  | 0, _, _ => rfl
  | n + 1, k, i => by
    simp only [pick, pickF]
    rw [pick_F m n, pick_F m n, bc_F]
    cases m.testBit n with
    | false => rfl
    | true =>
      by_cases hk : k = 0
      · subst hk; rfl
      · rw [if_pos rfl, if_neg hk, cond_true, show Nat.beq k 0 = false from Bool.eq_false_iff.2 (fun q => hk (Nat.eq_of_beq_eq_true q)), cond_false]
        by_cases h : i < bcF (cnt m n) k
        · rw [if_pos h, show Nat.blt i (bcF (cnt m n) k) = true from (by rw [Nat.blt_eq]; exact h)]; rfl
        · rw [if_neg h, show Nat.blt i (bcF (cnt m n) k) = false from Bool.eq_false_iff.2 (fun q => h (by rw [Nat.blt_eq] at q; exact q))]; rfl
def wyF : List Nat → Nat
  | [] => 1
  | l :: r => bcF (l + sm r) l * wyF r
theorem wy_F : ∀ l, wy l = wyF l
  | [] => rfl
  | l :: r => by rw [wy, wyF, wy_F r, bc_F]
def compF : List Nat → Nat → Nat → List Nat
  | [], _, _ => []
  | l :: r, m, n => pickF m 52 l (n / wyF r) :: compF r (nd m (pickF m 52 l (n / wyF r))) (n % wyF r)
theorem comp_F : ∀ (l : List Nat) (m n : Nat), comp l m n = compF l m n
  | [], _, _ => rfl
  | l :: r, m, n => by simp only [comp, compF]; rw [comp_F r, pick_F, wy_F]
end Go.Deal

/- Chapter 6: the examples hold. -/
namespace Go.Proofs.Ytpalajfcffdhoaa
open Go Go.Eng Go.Deal
/-! ### the examples' answers -/
def eq4 (a b c d x y z w : Int) : Bool := decide (a = x) && (decide (b = y) && (decide (c = z) && decide (d = w)))
theorem eq4_iff {a b c d x y z w : Int} : eq4 a b c d x y z w = true ↔ a = x ∧ b = y ∧ c = z ∧ d = w := by
  unfold eq4; simp only [Bool.and_eq_true, decide_eq_true_eq]
def nL (z : Int) : V := .agg [.int .u32 (N2.w0 z), .int .u32 (N2.w1 z), .int .u32 (N2.w2 z), .int .u32 (N2.w3 z)]
def allW : Int := 53644737765488792839237440000
def gWaysL : List V → Option (Bool × V)
  | [.agg [.int .u64 a, .int .u64 b, .int .u64 c, .int .u64 d]] => bif eq4 a b c d 0 0 0 0 then some (true, .tuple [nL allW, .int .i64 0]) else
      bif eq4 a b c d 8190 2251250057871360 549688705024 67100672 then some (true, .tuple [nL 2, .int .i64 0]) else none
  | _ => none
def gParL : List V → Option (Bool × V)
  | [.agg [.int .u64 a, .int .u64 b, .int .u64 c, .int .u64 d]] => bif eq4 a b c d 8191 67100672 824566611968 4502774993649664 then some (true, .bool true) else none
  | _ => none
def gCplL : List V → Option (Bool × V)
  | [.agg [.int .u64 a, .int .u64 b, .int .u64 c, .int .u64 d], .agg [.int .u32 e, .int .u32 f, .int .u32 g, .int .u32 h]] =>
    bif eq4 a b c d 0 0 0 0 then
      bif eq4 e f g h 0 0 0 0 then some (true, .tuple [q4 8191 67100672 549688705024 4503049871556608, .int .i64 0]) else
      bif eq4 e f g h 1 0 0 0 then some (true, .tuple [q4 8191 67100672 824566611968 4502774993649664, .int .i64 0]) else
      bif eq4 e f g h (N2.w0 (allW - 1)) (N2.w1 (allW - 1)) (N2.w2 (allW - 1)) (N2.w3 (allW - 1)) then some (true, .tuple [q4 4503049871556608 549688705024 67100672 8191, .int .i64 0]) else
      bif eq4 e f g h (N2.w0 allW) (N2.w1 allW) (N2.w2 allW) (N2.w3 allW) then some (true, .tuple [q4 0 0 0 0, .int .i64 6]) else none
    else bif eq4 a b c d 8190 2251250057871360 549688705024 67100672 then
      bif eq4 e f g h 0 0 0 0 then some (true, .tuple [q4 8191 4503049871556608 549688705024 67100672, .int .i64 0]) else none
    else none
  | _ => none
def tabL : PTab := addTab 11 gWaysL (addTab 14 gParL (addTab 18 gCplL (tabN n6)))
noncomputable abbrev evA (f : FuncId) (fn : Func) (args : List V) : Option V := evalFn Try.prog (orcN n6 tabL plainL) noLoops 100 f fn args [] (fun v _ => some v)
end Go.Proofs.Ytpalajfcffdhoaa

/- Chapter 6: Join, Suit and Rank known by their contracts. -/
namespace Go.Proofs.Ytpalajfcffdhoaa
open Go Go.Eng Go.Deal
def gJoin : List V → List Blk → Option (Bool × V × List Blk)
  | [.gs 0, .str sep], [.rs _ 1 (.strs xs)] => some (decide (xs.length ≤ 140737488355328) && decide (joinLen xs sep ≤ 140737488355328), .str (joinS xs sep), [])
  | _, _ => none
def hTabK (N : N6) : HTab := addH 52 gJoin (hTabN N)
def domK : FuncId → Bool := fun f => Nat.beq f 48 || Nat.beq f 52
theorem hTabK_ok : HTabOk Try.prog (hTabK n6) := by
  refine addH_ok ?_ hTabN_ok
  intro args h c v nb hq hc
  unfold gJoin at hq
  split at hq
  · cases hq
    simp only [Bool.and_eq_true, decide_eq_true_eq] at hc
    exact ⟨.of Try.func52 (by kernel_rfl), by rw [List.append_nil]; exact join_fn Try.strings_Join Try.strings_Join_none hc.1 hc.2⟩
  · cases hq
noncomputable abbrev orcK (N : N6) (T : PTab) (LL : FuncId → Loops) : Oracle := inl Try.prog ftab T LL 100 never domK (hOrcP nrN (hTabK N)) 20
theorem orcK_ok {T : PTab} (hT : PTabOk Try.prog T) {LL : FuncId → Loops} (hL : ∀ f, loopsOk Try.prog (LL f)) : OracleOk Try.prog (orcK n6 T LL) := inl_ok (hOrcP_ok hTabK_ok) ftab_ok hT hL mixed 20
def suitI (c : Int) : Int := bif decide (c < 52) then wr .u8 (c.tdiv 13) else 0
def rankI (c : Int) : Int := bif decide (c < 52) then c.tmod 13 else 0
theorem suit_eval (N : N6) (c : Int) : evalFn Try.prog (orcN N (tabN N) plainL) noLoops 100 77 Try.f77 [.int .u8 c] [] (fun v _ => some v) = bif !decide (c < 52) then some (.int .u8 0) else some (.int .u8 (wr .u8 (c.tdiv 13))) := by kernel_rfl
theorem rank_eval (N : N6) (c : Int) : evalFn Try.prog (orcN N (tabN N) plainL) noLoops 100 78 Try.f78 [.int .u8 c] [] (fun v _ => some v) = bif !decide (c < 52) then some (.int .u8 0) else some (.int .u8 (c.tmod 13)) := by kernel_rfl
def gSuit : List V → Option (Bool × V)
  | [.int .u8 c] => some (true, .int .u8 (suitI c))
  | _ => none
def gRank : List V → Option (Bool × V)
  | [.int .u8 c] => some (true, .int .u8 (rankI c))
  | _ => none
def addK (T : PTab) : PTab := addTab 77 gSuit (addTab 78 gRank T)
theorem addK_ok {T : PTab} (hT : PTabOk Try.prog T) : PTabOk Try.prog (addK T) := by
  refine addTab_ok ?_ (addTab_ok ?_ hT)
  · intro args c v h _
    unfold gSuit at h
    split at h
    · cases h
      refine fnPure_of_eval (N := 100) (orcN_ok tabN_ok plainL_ok) mixed Try.func77 (by kernel_rfl) noLoops_ok ?_ rfl rfl
      rw [suit_eval]; unfold suitI
      rename_i c _; cases decide (c < 52) <;> rfl
    · cases h
  · intro args c v h _
    unfold gRank at h
    split at h
    · cases h
      refine fnPure_of_eval (N := 100) (orcN_ok tabN_ok plainL_ok) mixed Try.func78 (by kernel_rfl) noLoops_ok ?_ rfl rfl
      rw [rank_eval]; unfold rankI
      rename_i c _; cases decide (c < 52) <;> rfl
    · cases h
noncomputable abbrev evK (f : FuncId) (fn : Func) (args : List V) : Option V := evalFn Try.prog (orcK n6 (addK tabL) plainL) noLoops 100 f fn args [] (fun v _ => some v)
end Go.Proofs.Ytpalajfcffdhoaa
