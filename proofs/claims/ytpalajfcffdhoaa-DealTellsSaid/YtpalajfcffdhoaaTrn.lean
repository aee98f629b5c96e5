/- Texts merged: Trn, Aw2. -/
import Derived.Test.YtpalajfcffdhoaaIndP
/- Chapter 6: Turn, Owner: their contracts. -/
namespace Go.Proofs.Ytpalajfcffdhoaa
open Go Go.Eng Go.Deal
def tnX (s k : Int) : Int := (wr .i64 (wr .i64 (s + k.tmod 4) + 4)).tmod 4
def tnS (i v x y z w : Int) (K : Int → Int → Int → Int → Option V) : Option V := bif decide (i = 0) then K v y z w else bif decide (i = 1) then K x v z w else bif decide (i = 2) then K x y v w else bif decide (i = 3) then K x y z v else none
theorem turn_eval (D : D6) (a b c d k : Int) : evE D 10 Try.f10 [q4 a b c d, .int .i64 k] = tnS (tnX 0 k) a 0 0 0 0 fun x y z w => tnS (tnX 1 k) b x y z w fun x y z w => tnS (tnX 2 k) c x y z w fun x y z w => tnS (tnX 3 k) d x y z w fun x y z w => some (q4 x y z w) := by kernel_rfl
/-- The hand that comes to a seat. -/
def tuC (k : Int) (p q r s : Int) : Int := bif decide (k % 4 = 0) then p else bif decide (k % 4 = 1) then q else bif decide (k % 4 = 2) then r else s
def tu0 (k a b c d : Int) : Int := tuC k a d c b
def tu1 (k a b c d : Int) : Int := tuC k b a d c
def tu2 (k a b c d : Int) : Int := tuC k c b a d
def tu3 (k a b c d : Int) : Int := tuC k d c b a
theorem tnX_is (s : Nat) (hs : s < 4) (k : Int) : tnX (s : Int) k = ((s : Int) + k) % 4 := by
  have h1 : k.tmod 4 = if 0 ≤ k then k % 4 else -((-k) % 4) := by
    split
    · exact Int.tmod_eq_emod_of_nonneg (by assumption)
    · have : k = -(-k) := by omega
      rw [this, Int.neg_tmod, Int.tmod_eq_emod_of_nonneg (by omega)]; omega
  have h2 : -4 < k.tmod 4 ∧ k.tmod 4 < 4 := by rw [h1]; split <;> omega
  unfold tnX
  rw [wr64 (x := (s : Int) + k.tmod 4) (by omega) (by omega), wr64 (by omega) (by omega), Int.tmod_eq_emod_of_nonneg (by omega), h1]
  split <;> omega
theorem turn_p (a b c d k : Int) : FnPure Try.prog 10 [q4 a b c d, .int .i64 k] (q4 (tu0 k a b c d) (tu1 k a b c d) (tu2 k a b c d) (tu3 k a b c d)) := by
  refine fnPure_of_eval (N := 100) (orcE_ok plainL_ok) mixed Try.func10 (by kernel_rfl) noLoops_ok ?_ rfl rfl
  refine (turn_eval d6 a b c d k).trans ?_
  have e0 := tnX_is 0 (by decide) k; have e1 := tnX_is 1 (by decide) k; have e2 := tnX_is 2 (by decide) k; have e3 := tnX_is 3 (by decide) k
  rw [show ((0 : Nat) : Int) = 0 from rfl] at e0
  rw [show ((1 : Nat) : Int) = 1 from rfl] at e1
  rw [show ((2 : Nat) : Int) = 2 from rfl] at e2
  rw [show ((3 : Nat) : Int) = 3 from rfl] at e3
  unfold tu0 tu1 tu2 tu3 tuC
  rw [e0, e1, e2, e3]
  have h : k % 4 = 0 ∨ k % 4 = 1 ∨ k % 4 = 2 ∨ k % 4 = 3 := by omega
  rcases h with h | h | h | h
  · rw [show (0 + k) % 4 = 0 by omega, show (1 + k) % 4 = 1 by omega, show (2 + k) % 4 = 2 by omega, show (3 + k) % 4 = 3 by omega, h]; rfl
  · rw [show (0 + k) % 4 = 1 by omega, show (1 + k) % 4 = 2 by omega, show (2 + k) % 4 = 3 by omega, show (3 + k) % 4 = 0 by omega, h]; rfl
  · rw [show (0 + k) % 4 = 2 by omega, show (1 + k) % 4 = 3 by omega, show (2 + k) % 4 = 0 by omega, show (3 + k) % 4 = 1 by omega, h]; rfl
  · rw [show (0 + k) % 4 = 3 by omega, show (1 + k) % 4 = 0 by omega, show (2 + k) % 4 = 1 by omega, show (3 + k) % 4 = 2 by omega, h]; rfl
def gTurn : List V → Option (Bool × V)
  | [.agg [.int .u64 a, .int .u64 b, .int .u64 c, .int .u64 d], .int .i64 k] => some (true, q4 (tu0 k a b c d) (tu1 k a b c d) (tu2 k a b c d) (tu3 k a b c d))
  | _ => none
/-! ### Owner -/
def owS (a c : Int) (s : Int) (K : Option V) : Option V := bif decide (c < 0) then none else bif decide (bitI a c = 1) then some (.tuple [.int .u8 s, .bool true]) else K
theorem owner_eval (D : D6) (a b c d k : Int) : evE D 15 Try.f15 [q4 a b c d, .int .u8 k] = bif !decide (k < 52) then some (.tuple [.int .u8 0, .bool false]) else
    owS a k 0 (owS b k 1 (owS c k 2 (owS d k 3 (some (.tuple [.int .u8 0, .bool false]))))) := by kernel_rfl
def owI (a b c d k : Int) : Int := bif decide (k < 52) then bif a.toNat.testBit k.toNat then 0 else bif b.toNat.testBit k.toNat then 1 else bif c.toNat.testBit k.toNat then 2 else bif d.toNat.testBit k.toNat then 3 else 0 else 0
def owB (a b c d k : Int) : Bool := decide (k < 52) && (a.toNat.testBit k.toNat || (b.toNat.testBit k.toNat || (c.toNat.testBit k.toNat || d.toNat.testBit k.toNat)))
theorem owS_n {a c : Nat} (ha : a < 18446744073709551616) (hc : c < 64) (s : Int) (K : Option V) : owS (a : Int) (c : Int) s K = bif a.testBit c then some (.tuple [.int .u8 s, .bool true]) else K := by
  unfold owS
  rw [decide_eq_false (by omega), bitI_n ha hc]
  cases a.testBit c <;> rfl
theorem owner_p {a b c d k : Int} (h : in4 a b c d = true) (hk : 0 ≤ k) : FnPure Try.prog 15 [q4 a b c d, .int .u8 k] (.tuple [.int .u8 (owI a b c d k), .bool (owB a b c d k)]) := by
  obtain ⟨a, b, c, d, rfl, rfl, rfl, rfl, ha, hb, hc, hd⟩ := in4_nat h
  obtain ⟨k, rfl⟩ : ∃ x : Nat, k = x := ⟨k.toNat, by omega⟩
  refine fnPure_of_eval (N := 100) (orcE_ok plainL_ok) mixed Try.func15 (by kernel_rfl) noLoops_ok ?_ rfl rfl
  refine (owner_eval d6 _ _ _ _ _).trans ?_
  unfold owI owB
  rw [Int.toNat_natCast, Int.toNat_natCast, Int.toNat_natCast, Int.toNat_natCast, Int.toNat_natCast]
  by_cases h52 : k < 52
  · rw [decide_eq_true (show (k : Int) < 52 by omega), owS_n ha (by omega), owS_n hb (by omega), owS_n hc (by omega), owS_n hd (by omega)]
    cases a.testBit k <;> cases b.testBit k <;> cases c.testBit k <;> cases d.testBit k <;> rfl
  · rw [decide_eq_false (show ¬ (k : Int) < 52 by omega)]; rfl
end Go.Proofs.Ytpalajfcffdhoaa

/- Chapter 6: the examples hold: awake. -/
namespace Go.Proofs.Ytpalajfcffdhoaa
open Go Go.Eng Go.Deal
def allT : ByteArray := ⟨⟨[53, 51, 54, 52, 52, 55, 51, 55, 55, 54, 53, 52, 56, 56, 55, 57, 50, 56, 51, 57, 50, 51, 55, 52, 52, 48, 48, 48, 48]⟩⟩
def bT : ByteArray := ⟨⟨[78, 58, 46, 46, 46, 65, 75, 81, 74, 84, 57, 56, 55, 54, 53, 52, 51, 50, 32, 46, 46, 65, 75, 81, 74, 84, 57, 56, 55, 54, 53, 52, 51, 50, 46, 32, 50, 46, 75, 81, 74, 84, 57, 56, 55, 54, 53, 52, 51, 50, 46, 46, 32, 65, 75, 81, 74, 84, 57, 56, 55, 54, 53, 52, 51, 46, 65, 46, 46]⟩⟩
def gNT : List V → Option (Bool × V)
  | [.agg [.int .u32 a, .int .u32 b, .int .u32 c, .int .u32 d]] => bif eq4 a b c d (N2.w0 allW) (N2.w1 allW) (N2.w2 allW) (N2.w3 allW) then some (true, .str allT) else none
  | _ => none
def gTx : List V → Option (Bool × V)
  | [.agg [.int .u64 a, .int .u64 b, .int .u64 c, .int .u64 d]] => bif eq4 a b c d 8191 67100672 824566611968 4502774993649664 then some (true, .str bT) else none
  | _ => none
def gSu : List V → Option (Bool × V)
  | [] => some (true, q4 8191 67100672 549688705024 4503049871556608)
  | _ => none
def tabM : PTab := addTab 10 gTurn (addTab 30 gNT (addTab 32 gTx (addTab 31 gSu tabL)))
def isS (s : ByteArray) : V → Bool
  | .str t => strEq t s
  | _ => false
theorem nt_eval : evalFn Try.prog (orcK n6 (addK tabL) plainL) noLoops 100 30 Try.f30 [nL allW] [] (fun v _ => some (isS allT v)) = some true := by kernel_rfl
theorem tx_eval : evalFn Try.prog (orcK n6 (addK tabL) plainL) noLoops 100 32 Try.f32 [q4 8191 67100672 824566611968 4502774993649664] [] (fun v _ => some (isS bT v)) = some true := by kernel_rfl
theorem su_eval : evK 31 Try.f31 [] = some (q4 8191 67100672 549688705024 4503049871556608) := by kernel_rfl
theorem awake_eval : evalFn Try.prog (orcK n6 (addK tabM) plainL) noLoops 100 12 Try.f12 [] [] (fun v _ => some v) = some (.bool true) := by kernel_rfl
end Go.Proofs.Ytpalajfcffdhoaa
