/- Texts merged: Bcf, Aw, KBase, Trn, Aw2. -/
import Derived.Test.YtpalajfcffdhoaaDoorDm5
import Derived.Test.YtpalajfcffdhoaaDoorCplP
/- Chapter 6, plainly: choices, quickly reckoned. -/
namespace Go.Deal
def bcF (n k : Nat) : Nat := if n < k then 0 else fct n / (fct k * fct (n - k))
theorem bc_F (n k : Nat) : bc n k = bcF n k := by
  unfold bcF
  by_cases h : n < k
  · rw [if_pos h, bc_big h]
  · have e := bc_fct k (n - k)
    rw [show k + (n - k) = n by omega] at e
    rw [if_neg h, ← e]
    exact (Nat.mul_div_cancel _ (Nat.mul_pos (fct_pos _) (fct_pos _))).symm
def pickF (m : Nat) : Nat → Nat → Nat → Nat
  | 0, _, _ => 0
  | n + 1, k, i => bif m.testBit n then
      (bif Nat.beq k 0 then 0 else bif Nat.blt i (bcF (cnt m n) k) then pickF m n k i else 2 ^ n + pickF m n (k - 1) (i - bcF (cnt m n) k))
    else pickF m n k i
theorem pick_F (m : Nat) : ∀ n k i, pick m n k i = pickF m n k i
  | 0, _, _ => rfl
  | n + 1, k, i => by
    simp only [pick, pickF]
    rw [pick_F m n, pick_F m n, bc_F]
    cases m.testBit n with
    | false => rfl
    | true =>
      by_cases hk : k = 0
      · subst hk; rfl
      · rw [if_pos rfl, if_neg hk, cond_true, show Nat.beq k 0 = false from Bool.eq_false_iff.2 (fun q => hk (Nat.eq_of_beq_eq_true q)), cond_false]
        by_cases h : i < bcF (cnt m n) k
        · rw [if_pos h, show Nat.blt i (bcF (cnt m n) k) = true from (by rw [Nat.blt_eq]; exact h)]; rfl
        · rw [if_neg h, show Nat.blt i (bcF (cnt m n) k) = false from Bool.eq_false_iff.2 (fun q => h (by rw [Nat.blt_eq] at q; exact q))]; rfl
def wyF : List Nat → Nat
  | [] => 1
  | l :: r => bcF (l + sm r) l * wyF r
theorem wy_F : ∀ l, wy l = wyF l
  | [] => rfl
  | l :: r => by rw [wy, wyF, wy_F r, bc_F]
def compF : List Nat → Nat → Nat → List Nat
  | [], _, _ => []
  | l :: r, m, n => pickF m 52 l (n / wyF r) :: compF r (nd m (pickF m 52 l (n / wyF r))) (n % wyF r)
theorem comp_F : ∀ (l : List Nat) (m n : Nat), comp l m n = compF l m n
  | [], _, _ => rfl
  | l :: r, m, n => by simp only [comp, compF]; rw [comp_F r, pick_F, wy_F]
end Go.Deal

/- Chapter 6: the examples hold. -/
namespace Go.Proofs.YtpalajfcffdhoaaDoor
open Go Go.Eng Go.Deal
/-! ### the examples' answers -/
def eq4 (a b c d x y z w : Int) : Bool := decide (a = x) && (decide (b = y) && (decide (c = z) && decide (d = w)))
theorem eq4_iff {a b c d x y z w : Int} : eq4 a b c d x y z w = true ↔ a = x ∧ b = y ∧ c = z ∧ d = w := by
  unfold eq4; simp only [Bool.and_eq_true, decide_eq_true_eq]
def nL (z : Int) : V := .agg [.int .u32 (N2.w0 z), .int .u32 (N2.w1 z), .int .u32 (N2.w2 z), .int .u32 (N2.w3 z)]
def allW : Int := 53644737765488792839237440000
def gWaysL : List V → Option (Bool × V)
  | [.agg [.int .u64 a, .int .u64 b, .int .u64 c, .int .u64 d]] => bif eq4 a b c d 0 0 0 0 then some (true, .tuple [nL allW, .int .i64 0]) else
      bif eq4 a b c d 8190 2251250057871360 549688705024 67100672 then some (true, .tuple [nL 2, .int .i64 0]) else none
  | _ => none
def gParL : List V → Option (Bool × V)
  | [.agg [.int .u64 a, .int .u64 b, .int .u64 c, .int .u64 d]] => bif eq4 a b c d 8191 67100672 824566611968 4502774993649664 then some (true, .bool true) else none
  | _ => none
def gCplL : List V → Option (Bool × V)
  | [.agg [.int .u64 a, .int .u64 b, .int .u64 c, .int .u64 d], .agg [.int .u32 e, .int .u32 f, .int .u32 g, .int .u32 h]] =>
    bif eq4 a b c d 0 0 0 0 then
      bif eq4 e f g h 0 0 0 0 then some (true, .tuple [q4 8191 67100672 549688705024 4503049871556608, .int .i64 0]) else
      bif eq4 e f g h 1 0 0 0 then some (true, .tuple [q4 8191 67100672 824566611968 4502774993649664, .int .i64 0]) else
      bif eq4 e f g h (N2.w0 (allW - 1)) (N2.w1 (allW - 1)) (N2.w2 (allW - 1)) (N2.w3 (allW - 1)) then some (true, .tuple [q4 4503049871556608 549688705024 67100672 8191, .int .i64 0]) else
      bif eq4 e f g h (N2.w0 allW) (N2.w1 allW) (N2.w2 allW) (N2.w3 allW) then some (true, .tuple [q4 0 0 0 0, .int .i64 6]) else none
    else bif eq4 a b c d 8190 2251250057871360 549688705024 67100672 then
      bif eq4 e f g h 0 0 0 0 then some (true, .tuple [q4 8191 4503049871556608 549688705024 67100672, .int .i64 0]) else none
    else none
  | _ => none
def tabL : PTab := addTab 18 gWaysL (addTab 8 gParL (addTab 19 gCplL (tabN n6)))
noncomputable abbrev evA (f : FuncId) (fn : Func) (args : List V) : Option V := evalFn Tryd.prog (orcN n6 tabL plainL) noLoops 100 f fn args [] (fun v _ => some v)
end Go.Proofs.YtpalajfcffdhoaaDoor

/- Chapter 6: Join, Suit and Rank known by their contracts. -/
namespace Go.Proofs.YtpalajfcffdhoaaDoor
open Go Go.Eng Go.Deal
def gJoin : List V → List Blk → Option (Bool × V × List Blk)
  | [.gs 0, .str sep], [.rs _ 1 (.strs xs)] => some (decide (xs.length ≤ 140737488355328) && decide (joinLen xs sep ≤ 140737488355328), .str (joinS xs sep), [])
  | _, _ => none
def hTabK (N : N6) : HTab := addH 13 gJoin (hTabN N)
def domK : FuncId → Bool := fun f => Nat.beq f 63 || Nat.beq f 13
theorem hTabK_ok : HTabOk Tryd.prog (hTabK n6) := by
  refine addH_ok ?_ hTabN_ok
  intro args h c v nb hq hc
  unfold gJoin at hq
  split at hq
  · cases hq
    simp only [Bool.and_eq_true, decide_eq_true_eq] at hc
    exact ⟨.of Tryd.func13 (by kernel_rfl), by rw [List.append_nil]; exact join_fn Tryd.strings_Join Tryd.strings_Join_none hc.1 hc.2⟩
  · cases hq
noncomputable abbrev orcK (N : N6) (T : PTab) (LL : FuncId → Loops) : Oracle := inl Tryd.prog ftab T LL 100 never domK (hOrcP nrN (hTabK N)) 20
theorem orcK_ok {T : PTab} (hT : PTabOk Tryd.prog T) {LL : FuncId → Loops} (hL : ∀ f, loopsOk Tryd.prog (LL f)) : OracleOk Tryd.prog (orcK n6 T LL) := inl_ok (hOrcP_ok hTabK_ok) ftab_ok hT hL mixed 20
def suitI (c : Int) : Int := bif decide (c < 52) then wr .u8 (c.tdiv 13) else 0
def rankI (c : Int) : Int := bif decide (c < 52) then c.tmod 13 else 0
theorem suit_eval (N : N6) (c : Int) : evalFn Tryd.prog (orcN N (tabN N) plainL) noLoops 100 29 Tryd.f29 [.int .u8 c] [] (fun v _ => some v) = bif !decide (c < 52) then some (.int .u8 0) else some (.int .u8 (wr .u8 (c.tdiv 13))) := by kernel_rfl
theorem rank_eval (N : N6) (c : Int) : evalFn Tryd.prog (orcN N (tabN N) plainL) noLoops 100 30 Tryd.f30 [.int .u8 c] [] (fun v _ => some v) = bif !decide (c < 52) then some (.int .u8 0) else some (.int .u8 (c.tmod 13)) := by kernel_rfl
def gSuit : List V → Option (Bool × V)
  | [.int .u8 c] => some (true, .int .u8 (suitI c))
  | _ => none
def gRank : List V → Option (Bool × V)
  | [.int .u8 c] => some (true, .int .u8 (rankI c))
  | _ => none
def addK (T : PTab) : PTab := addTab 29 gSuit (addTab 30 gRank T)
theorem addK_ok {T : PTab} (hT : PTabOk Tryd.prog T) : PTabOk Tryd.prog (addK T) := by
  refine addTab_ok ?_ (addTab_ok ?_ hT)
  · intro args c v h _
    unfold gSuit at h
    split at h
    · cases h
      refine fnPure_of_eval (N := 100) (orcN_ok tabN_ok plainL_ok) mixed Tryd.func29 (by kernel_rfl) noLoops_ok ?_ rfl rfl
      rw [suit_eval]; unfold suitI
      rename_i c _; cases decide (c < 52) <;> rfl
    · cases h
  · intro args c v h _
    unfold gRank at h
    split at h
    · cases h
      refine fnPure_of_eval (N := 100) (orcN_ok tabN_ok plainL_ok) mixed Tryd.func30 (by kernel_rfl) noLoops_ok ?_ rfl rfl
      rw [rank_eval]; unfold rankI
      rename_i c _; cases decide (c < 52) <;> rfl
    · cases h
noncomputable abbrev evK (f : FuncId) (fn : Func) (args : List V) : Option V := evalFn Tryd.prog (orcK n6 (addK tabL) plainL) noLoops 100 f fn args [] (fun v _ => some v)
end Go.Proofs.YtpalajfcffdhoaaDoor

/- Chapter 6: Turn, Owner: their contracts. -/
namespace Go.Proofs.YtpalajfcffdhoaaDoor
open Go Go.Eng Go.Deal
def tnX (s k : Int) : Int := (wr .i64 (wr .i64 (s + k.tmod 4) + 4)).tmod 4
def tnS (i v x y z w : Int) (K : Int → Int → Int → Int → Option V) : Option V := bif decide (i = 0) then K v y z w else bif decide (i = 1) then K x v z w else bif decide (i = 2) then K x y v w else bif decide (i = 3) then K x y z v else none
theorem turn_eval (D : D6) (a b c d k : Int) : evE D 25 Tryd.f25 [q4 a b c d, .int .i64 k] = tnS (tnX 0 k) a 0 0 0 0 fun x y z w => tnS (tnX 1 k) b x y z w fun x y z w => tnS (tnX 2 k) c x y z w fun x y z w => tnS (tnX 3 k) d x y z w fun x y z w => some (q4 x y z w) := by kernel_rfl
/-- The hand that comes to a seat. -/
def tuC (k : Int) (p q r s : Int) : Int := bif decide (k % 4 = 0) then p else bif decide (k % 4 = 1) then q else bif decide (k % 4 = 2) then r else s
def tu0 (k a b c d : Int) : Int := tuC k a d c b
def tu1 (k a b c d : Int) : Int := tuC k b a d c
def tu2 (k a b c d : Int) : Int := tuC k c b a d
def tu3 (k a b c d : Int) : Int := tuC k d c b a
theorem tnX_is (s : Nat) (hs : s < 4) (k : Int) : tnX (s : Int) k = ((s : Int) + k) % 4 := by
  have h1 : k.tmod 4 = if 0 ≤ k then k % 4 else -((-k) % 4) := by
    split
    · exact Int.tmod_eq_emod_of_nonneg (by assumption)
    · have : k = -(-k) := by omega
      rw [this, Int.neg_tmod, Int.tmod_eq_emod_of_nonneg (by omega)]; omega
  have h2 : -4 < k.tmod 4 ∧ k.tmod 4 < 4 := by rw [h1]; split <;> omega
  unfold tnX
  rw [wr64 (x := (s : Int) + k.tmod 4) (by omega) (by omega), wr64 (by omega) (by omega), Int.tmod_eq_emod_of_nonneg (by omega), h1]
  split <;> omega
theorem turn_p (a b c d k : Int) : FnPure Tryd.prog 25 [q4 a b c d, .int .i64 k] (q4 (tu0 k a b c d) (tu1 k a b c d) (tu2 k a b c d) (tu3 k a b c d)) := by
  refine fnPure_of_eval (N := 100) (orcE_ok plainL_ok) mixed Tryd.func25 (by kernel_rfl) noLoops_ok ?_ rfl rfl
  refine (turn_eval d6 a b c d k).trans ?_
  have e0 := tnX_is 0 (by decide) k; have e1 := tnX_is 1 (by decide) k; have e2 := tnX_is 2 (by decide) k; have e3 := tnX_is 3 (by decide) k
  rw [show ((0 : Nat) : Int) = 0 from rfl] at e0
  rw [show ((1 : Nat) : Int) = 1 from rfl] at e1
  rw [show ((2 : Nat) : Int) = 2 from rfl] at e2
  rw [show ((3 : Nat) : Int) = 3 from rfl] at e3
  unfold tu0 tu1 tu2 tu3 tuC
  rw [e0, e1, e2, e3]
  have h : k % 4 = 0 ∨ k % 4 = 1 ∨ k % 4 = 2 ∨ k % 4 = 3 := by omega
  rcases h with h | h | h | h
  · rw [show (0 + k) % 4 = 0 by omega, show (1 + k) % 4 = 1 by omega, show (2 + k) % 4 = 2 by omega, show (3 + k) % 4 = 3 by omega, h]; rfl
  · rw [show (0 + k) % 4 = 1 by omega, show (1 + k) % 4 = 2 by omega, show (2 + k) % 4 = 3 by omega, show (3 + k) % 4 = 0 by omega, h]; rfl
  · rw [show (0 + k) % 4 = 2 by omega, show (1 + k) % 4 = 3 by omega, show (2 + k) % 4 = 0 by omega, show (3 + k) % 4 = 1 by omega, h]; rfl
  · rw [show (0 + k) % 4 = 3 by omega, show (1 + k) % 4 = 0 by omega, show (2 + k) % 4 = 1 by omega, show (3 + k) % 4 = 2 by omega, h]; rfl
def gTurn : List V → Option (Bool × V)
  | [.agg [.int .u64 a, .int .u64 b, .int .u64 c, .int .u64 d], .int .i64 k] => some (true, q4 (tu0 k a b c d) (tu1 k a b c d) (tu2 k a b c d) (tu3 k a b c d))
  | _ => none
end Go.Proofs.YtpalajfcffdhoaaDoor

/- Chapter 6: the examples hold: awake. -/
namespace Go.Proofs.YtpalajfcffdhoaaDoor
open Go Go.Eng Go.Deal
def allT : ByteArray := ⟨⟨[53, 51, 54, 52, 52, 55, 51, 55, 55, 54, 53, 52, 56, 56, 55, 57, 50, 56, 51, 57, 50, 51, 55, 52, 52, 48, 48, 48, 48]⟩⟩
def bT : ByteArray := ⟨⟨[78, 58, 46, 46, 46, 65, 75, 81, 74, 84, 57, 56, 55, 54, 53, 52, 51, 50, 32, 46, 46, 65, 75, 81, 74, 84, 57, 56, 55, 54, 53, 52, 51, 50, 46, 32, 50, 46, 75, 81, 74, 84, 57, 56, 55, 54, 53, 52, 51, 50, 46, 46, 32, 65, 75, 81, 74, 84, 57, 56, 55, 54, 53, 52, 51, 46, 65, 46, 46]⟩⟩
def gNT : List V → Option (Bool × V)
  | [.agg [.int .u32 a, .int .u32 b, .int .u32 c, .int .u32 d]] => bif eq4 a b c d (N2.w0 allW) (N2.w1 allW) (N2.w2 allW) (N2.w3 allW) then some (true, .str allT) else none
  | _ => none
def gTx : List V → Option (Bool × V)
  | [.agg [.int .u64 a, .int .u64 b, .int .u64 c, .int .u64 d]] => bif eq4 a b c d 8191 67100672 824566611968 4502774993649664 then some (true, .str bT) else none
  | _ => none
def gSu : List V → Option (Bool × V)
  | [] => some (true, q4 8191 67100672 549688705024 4503049871556608)
  | _ => none
def tabM : PTab := addTab 25 gTurn (addTab 20 gNT (addTab 22 gTx (addTab 21 gSu tabL)))
def isS (s : ByteArray) : V → Bool
  | .str t => strEq t s
  | _ => false
theorem nt_eval : evalFn Tryd.prog (orcK n6 (addK tabL) plainL) noLoops 100 20 Tryd.f20 [nL allW] [] (fun v _ => some (isS allT v)) = some true := by kernel_rfl
theorem tx_eval : evalFn Tryd.prog (orcK n6 (addK tabL) plainL) noLoops 100 22 Tryd.f22 [q4 8191 67100672 824566611968 4502774993649664] [] (fun v _ => some (isS bT v)) = some true := by kernel_rfl
theorem su_eval : evK 21 Tryd.f21 [] = some (q4 8191 67100672 549688705024 4503049871556608) := by kernel_rfl
theorem awake_eval : evalFn Tryd.prog (orcK n6 (addK tabM) plainL) noLoops 100 9 Tryd.f9 [] [] (fun v _ => some v) = some (.bool true) := by kernel_rfl
end Go.Proofs.YtpalajfcffdhoaaDoor
