/- Texts merged: Trn, Aw2, Aw3. -/
import Derived.Test.YtpalajfcffdhoaaGreatDoorIndP
import Derived.Test.YtpalajfcffdhoaaGreatDoorEng4
/- Chapter 6: Turn, Owner: their contracts. -/
namespace Go.Proofs.YtpalajfcffdhoaaGreatDoor
open Go Go.Eng Go.Deal
def tnX (s k : Int) : Int := (wr .i64 (wr .i64 (s + k.tmod 4) + 4)).tmod 4
def tnS (i v x y z w : Int) (K : Int → Int → Int → Int → Option V) : Option V := bif decide (i = 0) then K v y z w else bif decide (i = 1) then K x v z w else bif decide (i = 2) then K x y v w else bif decide (i = 3) then K x y z v else none
theorem turn_eval (D : D6) (a b c d k : Int) : evE D 22 Tryz.f22 [q4 a b c d, .int .i64 k] = tnS (tnX 0 k) a 0 0 0 0 fun x y z w => tnS (tnX 1 k) b x y z w fun x y z w => tnS (tnX 2 k) c x y z w fun x y z w => tnS (tnX 3 k) d x y z w fun x y z w => some (q4 x y z w) := by kernel_rfl
def tuC (k : Int) (p q r s : Int) : Int := bif decide (k % 4 = 0) then p else bif decide (k % 4 = 1) then q else bif decide (k % 4 = 2) then r else s
def tu0 (k a b c d : Int) : Int := tuC k a d c b
def tu1 (k a b c d : Int) : Int := tuC k b a d c
def tu2 (k a b c d : Int) : Int := tuC k c b a d
def tu3 (k a b c d : Int) : Int := tuC k d c b a
theorem tnX_is (s : Nat) (hs : s < 4) (k : Int) : tnX (s : Int) k = ((s : Int) + k) % 4 := by
  have h1 : k.tmod 4 = if 0 ≤ k then k % 4 else -((-k) % 4) := by
    split
    · exact Int.tmod_eq_emod_of_nonneg (by assumption)
    · have : k = -(-k) := by omega
      rw [this, Int.neg_tmod, Int.tmod_eq_emod_of_nonneg (by omega)]; omega
  have h2 : -4 < k.tmod 4 ∧ k.tmod 4 < 4 := by rw [h1]; split <;> omega
  unfold tnX
  rw [wr64 (x := (s : Int) + k.tmod 4) (by omega) (by omega), wr64 (by omega) (by omega), Int.tmod_eq_emod_of_nonneg (by omega), h1]
  split <;> omega
theorem turn_p (a b c d k : Int) : FnPure Tryz.prog 22 [q4 a b c d, .int .i64 k] (q4 (tu0 k a b c d) (tu1 k a b c d) (tu2 k a b c d) (tu3 k a b c d)) := by
  refine fnPure_of_eval (N := 100) (orcE_ok plainL_ok) mixed Tryz.func22 (by kernel_rfl) noLoops_ok ?_ rfl rfl
  refine (turn_eval d6 a b c d k).trans ?_
  have e0 := tnX_is 0 (by decide) k; have e1 := tnX_is 1 (by decide) k; have e2 := tnX_is 2 (by decide) k; have e3 := tnX_is 3 (by decide) k
  rw [show ((0 : Nat) : Int) = 0 from rfl] at e0
  rw [show ((1 : Nat) : Int) = 1 from rfl] at e1
  rw [show ((2 : Nat) : Int) = 2 from rfl] at e2
  rw [show ((3 : Nat) : Int) = 3 from rfl] at e3
  unfold tu0 tu1 tu2 tu3 tuC
  rw [e0, e1, e2, e3]
  have h : k % 4 = 0 ∨ k % 4 = 1 ∨ k % 4 = 2 ∨ k % 4 = 3 := by omega
  rcases h with h | h | h | h
  · rw [show (0 + k) % 4 = 0 by omega, show (1 + k) % 4 = 1 by omega, show (2 + k) % 4 = 2 by omega, show (3 + k) % 4 = 3 by omega, h]; rfl
  · rw [show (0 + k) % 4 = 1 by omega, show (1 + k) % 4 = 2 by omega, show (2 + k) % 4 = 3 by omega, show (3 + k) % 4 = 0 by omega, h]; rfl
  · rw [show (0 + k) % 4 = 2 by omega, show (1 + k) % 4 = 3 by omega, show (2 + k) % 4 = 0 by omega, show (3 + k) % 4 = 1 by omega, h]; rfl
  · rw [show (0 + k) % 4 = 3 by omega, show (1 + k) % 4 = 0 by omega, show (2 + k) % 4 = 1 by omega, show (3 + k) % 4 = 2 by omega, h]; rfl
def gTurn : List V → Option (Bool × V)
  | [.agg [.int .u64 a, .int .u64 b, .int .u64 c, .int .u64 d], .int .i64 k] => some (true, q4 (tu0 k a b c d) (tu1 k a b c d) (tu2 k a b c d) (tu3 k a b c d))
  | _ => none
def owS (a c : Int) (s : Int) (K : Option V) : Option V := bif decide (c < 0) then none else bif decide (bitI a c = 1) then some (.tuple [.int .u8 s, .bool true]) else K
theorem owner_eval (D : D6) (a b c d k : Int) : evE D 16 Tryz.f16 [q4 a b c d, .int .u8 k] = bif !decide (k < 52) then some (.tuple [.int .u8 0, .bool false]) else
    owS a k 0 (owS b k 1 (owS c k 2 (owS d k 3 (some (.tuple [.int .u8 0, .bool false]))))) := by kernel_rfl
def owI (a b c d k : Int) : Int := bif decide (k < 52) then bif a.toNat.testBit k.toNat then 0 else bif b.toNat.testBit k.toNat then 1 else bif c.toNat.testBit k.toNat then 2 else bif d.toNat.testBit k.toNat then 3 else 0 else 0
def owB (a b c d k : Int) : Bool := decide (k < 52) && (a.toNat.testBit k.toNat || (b.toNat.testBit k.toNat || (c.toNat.testBit k.toNat || d.toNat.testBit k.toNat)))
theorem owS_n {a c : Nat} (ha : a < 18446744073709551616) (hc : c < 64) (s : Int) (K : Option V) : owS (a : Int) (c : Int) s K = bif a.testBit c then some (.tuple [.int .u8 s, .bool true]) else K := by
  unfold owS
  rw [decide_eq_false (by omega), bitI_n ha hc]
  cases a.testBit c <;> rfl
theorem owner_p {a b c d k : Int} (h : in4 a b c d = true) (hk : 0 ≤ k) : FnPure Tryz.prog 16 [q4 a b c d, .int .u8 k] (.tuple [.int .u8 (owI a b c d k), .bool (owB a b c d k)]) := by
  obtain ⟨a, b, c, d, rfl, rfl, rfl, rfl, ha, hb, hc, hd⟩ := in4_nat h
  obtain ⟨k, rfl⟩ : ∃ x : Nat, k = x := ⟨k.toNat, by omega⟩
  refine fnPure_of_eval (N := 100) (orcE_ok plainL_ok) mixed Tryz.func16 (by kernel_rfl) noLoops_ok ?_ rfl rfl
  refine (owner_eval d6 _ _ _ _ _).trans ?_
  unfold owI owB
  rw [Int.toNat_natCast, Int.toNat_natCast, Int.toNat_natCast, Int.toNat_natCast, Int.toNat_natCast]
  by_cases h52 : k < 52
  · rw [decide_eq_true (show (k : Int) < 52 by omega), owS_n ha (by omega), owS_n hb (by omega), owS_n hc (by omega), owS_n hd (by omega)]
    cases a.testBit k <;> cases b.testBit k <;> cases c.testBit k <;> cases d.testBit k <;> rfl
  · rw [decide_eq_false (show ¬ (k : Int) < 52 by omega)]; rfl
end Go.Proofs.YtpalajfcffdhoaaGreatDoor

/- Chapter 6: the examples hold: awake. -/
namespace Go.Proofs.YtpalajfcffdhoaaGreatDoor
open Go Go.Eng Go.Deal
def allT : ByteArray := ⟨⟨[53, 51, 54, 52, 52, 55, 51, 55, 55, 54, 53, 52, 56, 56, 55, 57, 50, 56, 51, 57, 50, 51, 55, 52, 52, 48, 48, 48, 48]⟩⟩
def bT : ByteArray := ⟨⟨[78, 58, 46, 46, 46, 65, 75, 81, 74, 84, 57, 56, 55, 54, 53, 52, 51, 50, 32, 46, 46, 65, 75, 81, 74, 84, 57, 56, 55, 54, 53, 52, 51, 50, 46, 32, 50, 46, 75, 81, 74, 84, 57, 56, 55, 54, 53, 52, 51, 50, 46, 46, 32, 65, 75, 81, 74, 84, 57, 56, 55, 54, 53, 52, 51, 46, 65, 46, 46]⟩⟩
def gNT : List V → Option (Bool × V)
  | [.agg [.int .u32 a, .int .u32 b, .int .u32 c, .int .u32 d]] => bif eq4 a b c d (N2.w0 allW) (N2.w1 allW) (N2.w2 allW) (N2.w3 allW) then some (true, .str allT) else none
  | _ => none
def gTx : List V → Option (Bool × V)
  | [.agg [.int .u64 a, .int .u64 b, .int .u64 c, .int .u64 d]] => bif eq4 a b c d 8191 67100672 824566611968 4502774993649664 then some (true, .str bT) else none
  | _ => none
def gSu : List V → Option (Bool × V)
  | [] => some (true, q4 8191 67100672 549688705024 4503049871556608)
  | _ => none
def tabM : PTab := addTab 22 gTurn (addTab 40 gNT (addTab 41 gTx (addTab 4 gSu tabL)))
def isS (s : ByteArray) : V → Bool
  | .str t => strEq t s
  | _ => false
theorem nt_eval : evalFn Tryz.prog (orcK n6 (addK tabL) plainL) noLoops 100 40 Tryz.f40 [nL allW] [] (fun v _ => some (isS allT v)) = some true := by kernel_rfl
theorem tx_eval : evalFn Tryz.prog (orcK n6 (addK tabL) plainL) noLoops 100 41 Tryz.f41 [q4 8191 67100672 824566611968 4502774993649664] [] (fun v _ => some (isS bT v)) = some true := by kernel_rfl
theorem su_eval : evK 4 Tryz.f4 [] = some (q4 8191 67100672 549688705024 4503049871556608) := by kernel_rfl
theorem awake_eval : evalFn Tryz.prog (orcK n6 (addK tabM) plainL) noLoops 100 11 Tryz.f11 [] [] (fun v _ => some v) = some (.bool true) := by kernel_rfl
end Go.Proofs.YtpalajfcffdhoaaGreatDoor

/- Chapter 6: awake answers true: its contract. -/
namespace Go.Proofs.YtpalajfcffdhoaaGreatDoor
open Go Go.Eng Go.Deal
def parK (a b c d : Nat) : Bool := (Nat.blt a (2 ^ 52) && Nat.ble (cnt a 52) 13) && ((Nat.blt b (2 ^ 52) && Nat.ble (cnt b 52) 13 && Nat.beq (b &&& a) 0) && ((Nat.blt c (2 ^ 52) && Nat.ble (cnt c 52) 13 && Nat.beq (c &&& (a ||| b)) 0) && (Nat.blt d (2 ^ 52) && Nat.ble (cnt d 52) 13 && Nat.beq (d &&& (a ||| b ||| c)) 0)))
theorem parK_ok {a b c d : Nat} (h : parK a b c d = true) : parB a b c d = true := by
  unfold parK at h
  simp only [Bool.and_eq_true, Nat.blt_eq, Nat.ble_eq] at h
  obtain ⟨⟨a1, a2⟩, ⟨⟨b1, b2⟩, b3⟩, ⟨⟨c1, c2⟩, c3⟩, ⟨d1, d2⟩, d3⟩ := h
  exact parB_iff.2 (par_iff.2 ⟨⟨a1, a2, Nat.and_zero _⟩, ⟨b1, b2, Nat.eq_of_beq_eq_true b3⟩, ⟨c1, c2, Nat.eq_of_beq_eq_true c3⟩, ⟨d1, d2, Nat.eq_of_beq_eq_true d3⟩⟩)
def cpGF (a b c d n : Nat) : Nat × Nat × Nat × Nat := match compF (lks a b c d) (lf a b c d) n with
  | [g0, g1, g2, g3] => (a ||| g0, b ||| g1, c ||| g2, d ||| g3)
  | _ => (0, 0, 0, 0)
theorem cpG_F (a b c d n : Nat) : cpG a b c d n = cpGF a b c d n := by unfold cpG cpGF; rw [comp_F]; rfl
theorem k0 : parK 0 0 0 0 = true := by kernel_rfl
theorem k1 : parK 8190 2251250057871360 549688705024 67100672 = true := by kernel_rfl
theorem k2 : parK 8191 67100672 824566611968 4502774993649664 = true := by kernel_rfl
theorem v0 : wyF (lks 0 0 0 0) = 53644737765488792839237440000 := by kernel_rfl
theorem v1 : wyF (lks 8190 2251250057871360 549688705024 67100672) = 2 := by kernel_rfl
theorem g0 : cpGF 0 0 0 0 0 = (8191, 67100672, 549688705024, 4503049871556608) := by kernel_rfl
theorem g1 : cpGF 0 0 0 0 1 = (8191, 67100672, 824566611968, 4502774993649664) := by kernel_rfl
theorem g2 : cpGF 0 0 0 0 53644737765488792839237439999 = (4503049871556608, 549688705024, 67100672, 8191) := by kernel_rfl
theorem g3 : cpGF 8190 2251250057871360 549688705024 67100672 0 = (8191, 4503049871556608, 549688705024, 67100672) := by kernel_rfl
theorem in0 : in4 0 0 0 0 = true := by decide
theorem in1 : in4 8190 2251250057871360 549688705024 67100672 = true := by decide
theorem in2 : in4 8191 67100672 824566611968 4502774993649664 = true := by decide
theorem P0 : parB 0 0 0 0 = true := parK_ok k0
theorem P1 : parB 8190 2251250057871360 549688705024 67100672 = true := parK_ok k1
theorem P2 : parB 8191 67100672 824566611968 4502774993649664 = true := parK_ok k2
theorem O0 : o0 0 0 0 0 = allW := by
  show ((wy (lks 0 0 0 0) : Nat) : Int) = _
  rw [wy_F, v0]; rfl
theorem O1 : o0 8190 2251250057871360 549688705024 67100672 = 2 := by
  show ((wy (lks 8190 2251250057871360 549688705024 67100672) : Nat) : Int) = _
  rw [wy_F, v1]; rfl
theorem cp_lit {a b c d n : Nat} {x y z w : Nat} {W : Int} (hp : parB a b c d = true) (ho : o0 a b c d = W) (hn : (n : Int) < W) (hg : cpGF a b c d n = (x, y, z, w)) :
    V.tuple [q4 (cp0 a b c d n) (cp1 a b c d n) (cp2 a b c d n) (cp3 a b c d n), .int .i64 (cpE a b c d n)] = .tuple [q4 x y z w, .int .i64 0] := by
  unfold cp0 cp1 cp2 cp3 cpE cpB
  rw [hp, ho, decide_eq_true hn, Int.toNat_natCast, Int.toNat_natCast, Int.toNat_natCast, Int.toNat_natCast, Int.toNat_natCast, cpG_F, hg]
  rfl
theorem waysL_ok {args : List V} {c : Bool} {v : V} (h : gWaysL args = some (c, v)) : FnPure Tryz.prog 14 args v := by
  unfold gWaysL at h
  split at h
  · rename_i a b c d
    cases h1 : eq4 a b c d 0 0 0 0 with
    | true =>
      rw [h1] at h; cases h
      obtain ⟨rfl, rfl, rfl, rfl⟩ := eq4_iff.1 h1
      have := ways_p in0
      unfold wyI leI at this
      rw [P0, O0] at this
      exact this
    | false =>
      rw [h1, cond_false] at h
      cases h2 : eq4 a b c d 8190 2251250057871360 549688705024 67100672 with
      | true =>
        rw [h2] at h; cases h
        obtain ⟨rfl, rfl, rfl, rfl⟩ := eq4_iff.1 h2
        have := ways_p in1
        unfold wyI leI at this
        rw [P1, O1] at this
        exact this
      | false => rw [h2] at h; cases h
  · cases h
theorem parL_ok {args : List V} {c : Bool} {v : V} (h : gParL args = some (c, v)) : FnPure Tryz.prog 20 args v := by
  unfold gParL at h
  split at h
  · rename_i a b c d
    cases h1 : eq4 a b c d 8191 67100672 824566611968 4502774993649664 with
    | true =>
      rw [h1] at h; cases h
      obtain ⟨rfl, rfl, rfl, rfl⟩ := eq4_iff.1 h1
      have := par_p in2
      rw [P2] at this
      exact this
    | false => rw [h1] at h; cases h
  · cases h
theorem nvz : N2.nval 0 0 0 0 = ((0 : Nat) : Int) := by decide
theorem nv1 : N2.nval 1 0 0 0 = ((1 : Nat) : Int) := by decide
theorem nva : N2.nval (N2.w0 (allW - 1)) (N2.w1 (allW - 1)) (N2.w2 (allW - 1)) (N2.w3 (allW - 1)) = ((53644737765488792839237439999 : Nat) : Int) := by rw [N2.nval_w]; decide
theorem nvb : N2.nval (N2.w0 allW) (N2.w1 allW) (N2.w2 allW) (N2.w3 allW) = ((53644737765488792839237440000 : Nat) : Int) := by rw [N2.nval_w]; decide
theorem cplL_ok {args : List V} {c : Bool} {v : V} (h : gCplL args = some (c, v)) : FnPure Tryz.prog 34 args v := by
  unfold gCplL at h
  split at h
  · rename_i a b c d e f g i
    cases h1 : eq4 a b c d 0 0 0 0 with
    | true =>
      rw [h1, cond_true] at h
      obtain ⟨rfl, rfl, rfl, rfl⟩ := eq4_iff.1 h1
      cases h2 : eq4 e f g i 0 0 0 0 with
      | true =>
        rw [h2, cond_true] at h; cases h
        obtain ⟨rfl, rfl, rfl, rfl⟩ := eq4_iff.1 h2
        have := cpl_p in0 (show N2.inN 0 0 0 0 = true by decide)
        rw [nvz] at this
        exact (cp_lit (a := 0) (b := 0) (c := 0) (d := 0) P0 O0 (by decide) g0) ▸ this
      | false =>
        rw [h2, cond_false] at h
        cases h3 : eq4 e f g i 1 0 0 0 with
        | true =>
          rw [h3, cond_true] at h; cases h
          obtain ⟨rfl, rfl, rfl, rfl⟩ := eq4_iff.1 h3
          have := cpl_p in0 (show N2.inN 1 0 0 0 = true by decide)
          rw [nv1] at this
          exact (cp_lit (a := 0) (b := 0) (c := 0) (d := 0) P0 O0 (by decide) g1) ▸ this
        | false =>
          rw [h3, cond_false] at h
          cases h4 : eq4 e f g i (N2.w0 (allW - 1)) (N2.w1 (allW - 1)) (N2.w2 (allW - 1)) (N2.w3 (allW - 1)) with
          | true =>
            rw [h4, cond_true] at h; cases h
            obtain ⟨rfl, rfl, rfl, rfl⟩ := eq4_iff.1 h4
            have := cpl_p in0 (N2.inN_w (allW - 1))
            rw [nva] at this
            exact (cp_lit (a := 0) (b := 0) (c := 0) (d := 0) P0 O0 (by decide) g2) ▸ this
          | false =>
            rw [h4, cond_false] at h
            cases h5 : eq4 e f g i (N2.w0 allW) (N2.w1 allW) (N2.w2 allW) (N2.w3 allW) with
            | true =>
              rw [h5, cond_true] at h; cases h
              obtain ⟨rfl, rfl, rfl, rfl⟩ := eq4_iff.1 h5
              have := cpl_p in0 (N2.inN_w allW)
              rw [nvb] at this
              unfold cp0 cp1 cp2 cp3 cpE cpB at this
              rw [P0, O0, decide_eq_false (show ¬ ((53644737765488792839237440000 : Nat) : Int) < allW by decide)] at this
              exact this
            | false => rw [h5] at h; cases h
    | false =>
      rw [h1, cond_false] at h
      cases h6 : eq4 a b c d 8190 2251250057871360 549688705024 67100672 with
      | true =>
        rw [h6, cond_true] at h
        obtain ⟨rfl, rfl, rfl, rfl⟩ := eq4_iff.1 h6
        cases h2 : eq4 e f g i 0 0 0 0 with
        | true =>
          rw [h2, cond_true] at h; cases h
          obtain ⟨rfl, rfl, rfl, rfl⟩ := eq4_iff.1 h2
          have := cpl_p in1 (show N2.inN 0 0 0 0 = true by decide)
          rw [nvz] at this
          exact (cp_lit (a := 8190) (b := 2251250057871360) (c := 549688705024) (d := 67100672) P1 O1 (by decide) g3) ▸ this
        | false => rw [h2] at h; cases h
      | false => rw [h6] at h; cases h
  · cases h
theorem tabL_ok : PTabOk Tryz.prog tabL := by
  refine addTab_ok (fun _ _ _ h _ => waysL_ok h) (addTab_ok (fun _ _ _ h _ => parL_ok h) (addTab_ok (fun _ _ _ h _ => cplL_ok h) tabN_ok))
theorem strEqW {a b : ByteArray} : strEq a b = true ↔ a = b := by
  rw [← strEq_eq]
  constructor
  · intro h
    have := eq_of_beq h
    apply ByteArray.ext
    apply Array.ext'
    rw [ByteArray.toList_eq, ByteArray.toList_eq] at this
    exact this
  · rintro rfl; exact beq_self_eq_true _
theorem nt_run : runB (evalFn Tryz.prog (orcK n6 (addK tabL) plainL) noLoops 100 40 Tryz.f40 [nL allW] [] (fun v _ => some (isS allT v))) = true := by rw [nt_eval]; rfl
theorem tx_run : runB (evalFn Tryz.prog (orcK n6 (addK tabL) plainL) noLoops 100 41 Tryz.f41 [q4 8191 67100672 824566611968 4502774993649664] [] (fun v _ => some (isS bT v))) = true := by rw [tx_eval]; rfl
theorem tabM_ok : PTabOk Tryz.prog tabM := by
  refine addTab_ok ?_ (addTab_ok ?_ (addTab_ok ?_ (addTab_ok ?_ tabL_ok)))
  · intro args c v h _
    unfold gTurn at h
    split at h
    · cases h; exact turn_p _ _ _ _ _
    · cases h
  · intro args c v h _
    unfold gNT at h
    split at h
    · rename_i a b c d
      cases h1 : eq4 a b c d (N2.w0 allW) (N2.w1 allW) (N2.w2 allW) (N2.w3 allW) with
      | true =>
        rw [h1] at h; cases h
        obtain ⟨rfl, rfl, rfl, rfl⟩ := eq4_iff.1 h1
        exact pure_of_check (N := 100) (chk := isS allT) (orcK_ok (addK_ok tabL_ok) plainL_ok) mixed Tryz.func40 (by kernel_rfl) noLoops_ok nt_run (fun u hu => by
          unfold isS at hu
          split at hu
          · rw [strEqW.1 hu]
          · cases hu) rfl rfl
      | false => rw [h1] at h; cases h
    · cases h
  · intro args c v h _
    unfold gTx at h
    split at h
    · rename_i a b c d
      cases h1 : eq4 a b c d 8191 67100672 824566611968 4502774993649664 with
      | true =>
        rw [h1] at h; cases h
        obtain ⟨rfl, rfl, rfl, rfl⟩ := eq4_iff.1 h1
        exact pure_of_check (N := 100) (chk := isS bT) (orcK_ok (addK_ok tabL_ok) plainL_ok) mixed Tryz.func41 (by kernel_rfl) noLoops_ok tx_run (fun u hu => by
          unfold isS at hu
          split at hu
          · rw [strEqW.1 hu]
          · cases hu) rfl rfl
      | false => rw [h1] at h; cases h
    · cases h
  · intro args c v h _
    unfold gSu at h
    split at h
    · cases h
      exact fnPure_of_eval (N := 100) (orcK_ok (addK_ok tabL_ok) plainL_ok) mixed Tryz.func4 (by kernel_rfl) noLoops_ok su_eval rfl rfl
    · cases h
theorem awake_p : FnPure Tryz.prog 11 [] (.bool true) := fnPure_of_eval (N := 100) (orcK_ok (addK_ok tabM_ok) plainL_ok) mixed Tryz.func11 (by kernel_rfl) noLoops_ok awake_eval rfl rfl
end Go.Proofs.YtpalajfcffdhoaaGreatDoor
