/- Chapter 6: awake answers true: its contract. -/
import Derived.Test.YtpalajfcffdhoaaDoorBcf
import Derived.Test.YtpalajfcffdhoaaDoorEng4
namespace Go.Proofs.YtpalajfcffdhoaaDoor
open Go Go.Eng Go.Deal
def parK (a b c d : Nat) : Bool := (Nat.blt a (2 ^ 52) && Nat.ble (cnt a 52) 13) && ((Nat.blt b (2 ^ 52) && Nat.ble (cnt b 52) 13 && Nat.beq (b &&& a) 0) && ((Nat.blt c (2 ^ 52) && Nat.ble (cnt c 52) 13 && Nat.beq (c &&& (a ||| b)) 0) && (Nat.blt d (2 ^ 52) && Nat.ble (cnt d 52) 13 && Nat.beq (d &&& (a ||| b ||| c)) 0)))
theorem parK_ok {a b c d : Nat} (h : parK a b c d = true) : parB a b c d = true := by
  unfold parK at h
  simp only [Bool.and_eq_true, Nat.blt_eq, Nat.ble_eq] at h
  obtain ⟨⟨a1, a2⟩, ⟨⟨b1, b2⟩, b3⟩, ⟨⟨c1, c2⟩, c3⟩, ⟨d1, d2⟩, d3⟩ := h
  exact parB_iff.2 (par_iff.2 ⟨⟨a1, a2, Nat.and_zero _⟩, ⟨b1, b2, Nat.eq_of_beq_eq_true b3⟩, ⟨c1, c2, Nat.eq_of_beq_eq_true c3⟩, ⟨d1, d2, Nat.eq_of_beq_eq_true d3⟩⟩)
def cpGF (a b c d n : Nat) : Nat × Nat × Nat × Nat := match compF (lks a b c d) (lf a b c d) n with
  | [g0, g1, g2, g3] => (a ||| g0, b ||| g1, c ||| g2, d ||| g3)
  | _ => (0, 0, 0, 0)
theorem cpG_F (a b c d n : Nat) : cpG a b c d n = cpGF a b c d n := by unfold cpG cpGF; rw [comp_F]; rfl
theorem k0 : parK 0 0 0 0 = true := by kernel_rfl
theorem k1 : parK 8190 2251250057871360 549688705024 67100672 = true := by kernel_rfl
theorem k2 : parK 8191 67100672 824566611968 4502774993649664 = true := by kernel_rfl
theorem v0 : wyF (lks 0 0 0 0) = 53644737765488792839237440000 := by kernel_rfl
theorem v1 : wyF (lks 8190 2251250057871360 549688705024 67100672) = 2 := by kernel_rfl
theorem g0 : cpGF 0 0 0 0 0 = (8191, 67100672, 549688705024, 4503049871556608) := by kernel_rfl
theorem g1 : cpGF 0 0 0 0 1 = (8191, 67100672, 824566611968, 4502774993649664) := by kernel_rfl
theorem g2 : cpGF 0 0 0 0 53644737765488792839237439999 = (4503049871556608, 549688705024, 67100672, 8191) := by kernel_rfl
theorem g3 : cpGF 8190 2251250057871360 549688705024 67100672 0 = (8191, 4503049871556608, 549688705024, 67100672) := by kernel_rfl
theorem in0 : in4 0 0 0 0 = true := by decide
theorem in1 : in4 8190 2251250057871360 549688705024 67100672 = true := by decide
theorem in2 : in4 8191 67100672 824566611968 4502774993649664 = true := by decide
theorem P0 : parB 0 0 0 0 = true := parK_ok k0
theorem P1 : parB 8190 2251250057871360 549688705024 67100672 = true := parK_ok k1
theorem P2 : parB 8191 67100672 824566611968 4502774993649664 = true := parK_ok k2
theorem O0 : o0 0 0 0 0 = allW := by
  show ((wy (lks 0 0 0 0) : Nat) : Int) = _
  rw [wy_F, v0]; rfl
theorem O1 : o0 8190 2251250057871360 549688705024 67100672 = 2 := by
  show ((wy (lks 8190 2251250057871360 549688705024 67100672) : Nat) : Int) = _
  rw [wy_F, v1]; rfl
theorem cp_lit {a b c d n : Nat} {x y z w : Nat} {W : Int} (hp : parB a b c d = true) (ho : o0 a b c d = W) (hn : (n : Int) < W) (hg : cpGF a b c d n = (x, y, z, w)) :
    V.tuple [q4 (cp0 a b c d n) (cp1 a b c d n) (cp2 a b c d n) (cp3 a b c d n), .int .i64 (cpE a b c d n)] = .tuple [q4 x y z w, .int .i64 0] := by
  unfold cp0 cp1 cp2 cp3 cpE cpB
  rw [hp, ho, decide_eq_true hn, Int.toNat_natCast, Int.toNat_natCast, Int.toNat_natCast, Int.toNat_natCast, Int.toNat_natCast, cpG_F, hg]
  rfl
theorem waysL_ok {args : List V} {c : Bool} {v : V} (h : gWaysL args = some (c, v)) : FnPure Tryd.prog 18 args v := by
  unfold gWaysL at h
  split at h
  · rename_i a b c d
    cases h1 : eq4 a b c d 0 0 0 0 with
    | true =>
      rw [h1] at h; cases h
      obtain ⟨rfl, rfl, rfl, rfl⟩ := eq4_iff.1 h1
      have := ways_p in0
      unfold wyI leI at this
      rw [P0, O0] at this
      exact this
    | false =>
      rw [h1, cond_false] at h
      cases h2 : eq4 a b c d 8190 2251250057871360 549688705024 67100672 with
      | true =>
        rw [h2] at h; cases h
        obtain ⟨rfl, rfl, rfl, rfl⟩ := eq4_iff.1 h2
        have := ways_p in1
        unfold wyI leI at this
        rw [P1, O1] at this
        exact this
      | false => rw [h2] at h; cases h
  · cases h
theorem parL_ok {args : List V} {c : Bool} {v : V} (h : gParL args = some (c, v)) : FnPure Tryd.prog 8 args v := by
  unfold gParL at h
  split at h
  · rename_i a b c d
    cases h1 : eq4 a b c d 8191 67100672 824566611968 4502774993649664 with
    | true =>
      rw [h1] at h; cases h
      obtain ⟨rfl, rfl, rfl, rfl⟩ := eq4_iff.1 h1
      have := par_p in2
      rw [P2] at this
      exact this
    | false => rw [h1] at h; cases h
  · cases h
theorem nvz : N2.nval 0 0 0 0 = ((0 : Nat) : Int) := by decide
theorem nv1 : N2.nval 1 0 0 0 = ((1 : Nat) : Int) := by decide
theorem nva : N2.nval (N2.w0 (allW - 1)) (N2.w1 (allW - 1)) (N2.w2 (allW - 1)) (N2.w3 (allW - 1)) = ((53644737765488792839237439999 : Nat) : Int) := by rw [N2.nval_w]; decide
theorem nvb : N2.nval (N2.w0 allW) (N2.w1 allW) (N2.w2 allW) (N2.w3 allW) = ((53644737765488792839237440000 : Nat) : Int) := by rw [N2.nval_w]; decide
theorem cplL_ok {args : List V} {c : Bool} {v : V} (h : gCplL args = some (c, v)) : FnPure Tryd.prog 19 args v := by
  unfold gCplL at h
  split at h
  · rename_i a b c d e f g i
    cases h1 : eq4 a b c d 0 0 0 0 with
    | true =>
      rw [h1, cond_true] at h
      obtain ⟨rfl, rfl, rfl, rfl⟩ := eq4_iff.1 h1
      cases h2 : eq4 e f g i 0 0 0 0 with
      | true =>
        rw [h2, cond_true] at h; cases h
        obtain ⟨rfl, rfl, rfl, rfl⟩ := eq4_iff.1 h2
        have := cpl_p in0 (show N2.inN 0 0 0 0 = true by decide)
        rw [nvz] at this
        exact (cp_lit (a := 0) (b := 0) (c := 0) (d := 0) P0 O0 (by decide) g0) ▸ this
      | false =>
        rw [h2, cond_false] at h
        cases h3 : eq4 e f g i 1 0 0 0 with
        | true =>
          rw [h3, cond_true] at h; cases h
          obtain ⟨rfl, rfl, rfl, rfl⟩ := eq4_iff.1 h3
          have := cpl_p in0 (show N2.inN 1 0 0 0 = true by decide)
          rw [nv1] at this
          exact (cp_lit (a := 0) (b := 0) (c := 0) (d := 0) P0 O0 (by decide) g1) ▸ this
        | false =>
          rw [h3, cond_false] at h
          cases h4 : eq4 e f g i (N2.w0 (allW - 1)) (N2.w1 (allW - 1)) (N2.w2 (allW - 1)) (N2.w3 (allW - 1)) with
          | true =>
            rw [h4, cond_true] at h; cases h
            obtain ⟨rfl, rfl, rfl, rfl⟩ := eq4_iff.1 h4
            have := cpl_p in0 (N2.inN_w (allW - 1))
            rw [nva] at this
            exact (cp_lit (a := 0) (b := 0) (c := 0) (d := 0) P0 O0 (by decide) g2) ▸ this
          | false =>
            rw [h4, cond_false] at h
            cases h5 : eq4 e f g i (N2.w0 allW) (N2.w1 allW) (N2.w2 allW) (N2.w3 allW) with
            | true =>
              rw [h5, cond_true] at h; cases h
              obtain ⟨rfl, rfl, rfl, rfl⟩ := eq4_iff.1 h5
              have := cpl_p in0 (N2.inN_w allW)
              rw [nvb] at this
              unfold cp0 cp1 cp2 cp3 cpE cpB at this
              rw [P0, O0, decide_eq_false (show ¬ ((53644737765488792839237440000 : Nat) : Int) < allW by decide)] at this
              exact this
            | false => rw [h5] at h; cases h
    | false =>
      rw [h1, cond_false] at h
      cases h6 : eq4 a b c d 8190 2251250057871360 549688705024 67100672 with
      | true =>
        rw [h6, cond_true] at h
        obtain ⟨rfl, rfl, rfl, rfl⟩ := eq4_iff.1 h6
        cases h2 : eq4 e f g i 0 0 0 0 with
        | true =>
          rw [h2, cond_true] at h; cases h
          obtain ⟨rfl, rfl, rfl, rfl⟩ := eq4_iff.1 h2
          have := cpl_p in1 (show N2.inN 0 0 0 0 = true by decide)
          rw [nvz] at this
          exact (cp_lit (a := 8190) (b := 2251250057871360) (c := 549688705024) (d := 67100672) P1 O1 (by decide) g3) ▸ this
        | false => rw [h2] at h; cases h
      | false => rw [h6] at h; cases h
  · cases h
theorem tabL_ok : PTabOk Tryd.prog tabL := by
  refine addTab_ok (fun _ _ _ h _ => waysL_ok h) (addTab_ok (fun _ _ _ h _ => parL_ok h) (addTab_ok (fun _ _ _ h _ => cplL_ok h) tabN_ok))
theorem strEqW {a b : ByteArray} : strEq a b = true ↔ a = b := by
  rw [← strEq_eq]
  constructor
  · intro h
    have := eq_of_beq h
    apply ByteArray.ext
    apply Array.ext'
    rw [ByteArray.toList_eq, ByteArray.toList_eq] at this
    exact this
  · rintro rfl; exact beq_self_eq_true _
theorem nt_run : runB (evalFn Tryd.prog (orcK n6 (addK tabL) plainL) noLoops 100 20 Tryd.f20 [nL allW] [] (fun v _ => some (isS allT v))) = true := by rw [nt_eval]; rfl
theorem tx_run : runB (evalFn Tryd.prog (orcK n6 (addK tabL) plainL) noLoops 100 22 Tryd.f22 [q4 8191 67100672 824566611968 4502774993649664] [] (fun v _ => some (isS bT v))) = true := by rw [tx_eval]; rfl
theorem tabM_ok : PTabOk Tryd.prog tabM := by
  refine addTab_ok ?_ (addTab_ok ?_ (addTab_ok ?_ (addTab_ok ?_ tabL_ok)))
  · intro args c v h _
    unfold gTurn at h
    split at h
    · cases h; exact turn_p _ _ _ _ _
    · cases h
  · intro args c v h _
    unfold gNT at h
    split at h
    · rename_i a b c d
      cases h1 : eq4 a b c d (N2.w0 allW) (N2.w1 allW) (N2.w2 allW) (N2.w3 allW) with
      | true =>
        rw [h1] at h; cases h
        obtain ⟨rfl, rfl, rfl, rfl⟩ := eq4_iff.1 h1
        exact pure_of_check (N := 100) (chk := isS allT) (orcK_ok (addK_ok tabL_ok) plainL_ok) mixed Tryd.func20 (by kernel_rfl) noLoops_ok nt_run (fun u hu => by
          unfold isS at hu
          split at hu
          · rw [strEqW.1 hu]
          · cases hu) rfl rfl
      | false => rw [h1] at h; cases h
    · cases h
  · intro args c v h _
    unfold gTx at h
    split at h
    · rename_i a b c d
      cases h1 : eq4 a b c d 8191 67100672 824566611968 4502774993649664 with
      | true =>
        rw [h1] at h; cases h
        obtain ⟨rfl, rfl, rfl, rfl⟩ := eq4_iff.1 h1
        exact pure_of_check (N := 100) (chk := isS bT) (orcK_ok (addK_ok tabL_ok) plainL_ok) mixed Tryd.func22 (by kernel_rfl) noLoops_ok tx_run (fun u hu => by
          unfold isS at hu
          split at hu
          · rw [strEqW.1 hu]
          · cases hu) rfl rfl
      | false => rw [h1] at h; cases h
    · cases h
  · intro args c v h _
    unfold gSu at h
    split at h
    · cases h
      exact fnPure_of_eval (N := 100) (orcK_ok (addK_ok tabL_ok) plainL_ok) mixed Tryd.func21 (by kernel_rfl) noLoops_ok su_eval rfl rfl
    · cases h
theorem awake_p : FnPure Tryd.prog 9 [] (.bool true) := fnPure_of_eval (N := 100) (orcK_ok (addK_ok tabM_ok) plainL_ok) mixed Tryd.func9 (by kernel_rfl) noLoops_ok awake_eval rfl rfl
end Go.Proofs.YtpalajfcffdhoaaDoor
