/- Chapter 6: order's contract. -/
import Derived.Test.YtpalajfcffdhoaaOrdL
namespace Go.Proofs.Ytpalajfcffdhoaa
open Go Go.Eng Go.Deal
section
variable (N : N6) (K : Int → Int → Int → Bool) (W : Int → Int → Int → Int) (C : List Int → Bool) (G : Int → Int → Int)
noncomputable def odTree : List PV → Fin
  | [.i r, .i g, .i i0, .i i1, .i i2, .i i3, .i n, .i k, .i c0, .i c1, .i c2, .i c3, .i m] => .br (C [r, g, i0, i1, i2, i3, n, k, c0, c1, c2, c3, m])
      (.leaf (.exit 0) (odX.at [.i g, .i (N.w0 (G m g)), .i (N.w1 (G m g)), .i (N.w2 (G m g)), .i (N.w3 (G m g)), .i 0, .i 0, .i 1, .i 0, .i 0, .i 0, .i m])) .no
  | _ => .no
noncomputable def odLL : FuncId → Loops := fun f => match f with
  | 85 => sums (fun n => match n with | 1 => some (lsumF 9 odT sbLp (odTree N C G)) | _ => none)
  | _ => noLoops
theorem ord_eval (m g : Int) : evalFn Try.prog (orcN N (tabW N K W) (odLL N C G)) noLoops 100 49 Try.f49 [.int .u64 m, .int .u64 g] [] (fun v _ => some v) =
    bif N.u m then bif N.u g then cond (codesB [(sbLp, sbLp), (odA, odA), (odB, odB)]) (bif C [m, g, 0, 0, 0, 0, N.oc m, N.oc g, N.w0 (N.ch (N.oc m) (N.oc g)), N.w1 (N.ch (N.oc m) (N.oc g)), N.w2 (N.ch (N.oc m) (N.oc g)), N.w3 (N.ch (N.oc m) (N.oc g)), m] then
      some (N.nW (G m g)) else none) none else none else none := by kernel_rfl
end
noncomputable def oc6 : List Int → Bool
  | [r, g, i0, i1, i2, i3, n, k, c0, c1, c2, c3, m] => pB (0 ≤ m ∧ m < 4503599627370496 ∧ r = m ∧ 0 ≤ g ∧ Sub g.toNat m.toNat ∧ i0 = 0 ∧ i1 = 0 ∧ i2 = 0 ∧ i3 = 0 ∧ n = ((cnt m.toNat 52 : Nat) : Int) ∧ k = ((cnt g.toNat 52 : Nat) : Int) ∧
      c0 = N2.w0 ((bc (cnt m.toNat 52) (cnt g.toNat 52) : Nat) : Int) ∧ c1 = N2.w1 ((bc (cnt m.toNat 52) (cnt g.toNat 52) : Nat) : Int) ∧ c2 = N2.w2 ((bc (cnt m.toNat 52) (cnt g.toNat 52) : Nat) : Int) ∧ c3 = N2.w3 ((bc (cnt m.toNat 52) (cnt g.toNat 52) : Nat) : Int))
  | _ => false
def og6 (m g : Int) : Int := ((rank m.toNat g.toNat 52 : Nat) : Int)
theorem odLL_ok : ∀ f, loopsOk Try.prog (odLL n6 oc6 og6 f) := fun f => by
  unfold odLL
  split
  · intro n g hg
    simp only [sums] at hg
    split at hg
    · cases hg
      refine lsumF_ok (by kernel_rfl) (fun rd ps e1 s1 h => ?_)
      unfold odTree at h
      split at h
      · rename_i r g i0 i1 i2 i3 n k c0 c1 c2 c3 m
        simp only [Fin.pick] at h
        cases hc : oc6 [r, g, i0, i1, i2, i3, n, k, c0, c1, c2, c3, m] with
        | false => rw [hc] at h; cases h
        | true =>
          rw [hc, cond_true] at h
          unfold oc6 at hc
          rw [pB_iff] at hc
          obtain ⟨h1, h2, rfl, h3, h4, rfl, rfl, rfl, rfl, rfl, rfl, rfl, rfl, rfl, rfl⟩ := hc
          obtain ⟨m', rfl⟩ : ∃ x : Nat, r = x := ⟨r.toNat, by omega⟩
          obtain ⟨g', rfl⟩ : ∃ x : Nat, g = x := ⟨g.toNat, by omega⟩
          unfold og6 at h
          rw [Int.toNat_natCast, Int.toNat_natCast] at h h4
          rw [Int.toNat_natCast, Int.toNat_natCast]
          have hg52 : g' < 4503599627370496 := sub_lt h4 (show m' < 2 ^ 52 by omega)
          have hr := rank_lt h4 52
          have hb := bc_52 (n := cnt m' 52) (k := cnt g' 52) (cnt_le _ _)
          have hn := od_loop rd m' g' h4 hg52 (52, 0) ⟨Nat.le_refl _, by dsimp only; omega⟩
          have hE : odEnc m' g' (52, 0) = [.i (m' : Int), .i (g' : Int), .i 0, .i 0, .i 0, .i 0, .i ((cnt m' 52 : Nat) : Int), .i ((cnt g' 52 : Nat) : Int),
              .i (N2.w0 ((bc (cnt m' 52) (cnt g' 52) : Nat) : Int)), .i (N2.w1 ((bc (cnt m' 52) (cnt g' 52) : Nat) : Int)), .i (N2.w2 ((bc (cnt m' 52) (cnt g' 52) : Nat) : Int)), .i (N2.w3 ((bc (cnt m' 52) (cnt g' 52) : Nat) : Int)), .i (m' : Int)] := by
            unfold odEnc
            dsimp only
            rw [mod_self52 (by omega), w00, w10, w20, w30]
          have hF : odFin m' g' (52, 0) = (.exit 0, odEnd m' g' (rank m' g' 52)) := by
            unfold odFin; dsimp only; rw [Nat.zero_add]
          rw [hE, hF] at hn
          cases h
          exact hn
      · cases h
    · cases hg
  · exact noLoops_ok
def odOk (m g : Int) : Bool := decide (0 ≤ m ∧ m < 4503599627370496 ∧ 0 ≤ g ∧ g.toNat &&& m.toNat = g.toNat)
theorem sub_and {g m : Nat} : g &&& m = g ↔ Sub g m := by
  constructor
  · intro h i hi
    rw [← h, Nat.testBit_and, Bool.and_eq_true] at hi
    exact hi.2
  · intro h
    refine Nat.eq_of_testBit_eq fun i => ?_
    rw [Nat.testBit_and]
    cases hq : g.testBit i with
    | false => rfl
    | true => rw [h i hq]; rfl
theorem ord_p {m g : Int} (h : odOk m g = true) : FnPure Try.prog 49 [.int .u64 m, .int .u64 g] (n6.nW (og6 m g)) := by
  unfold odOk at h
  rw [decide_eq_true_eq] at h
  obtain ⟨h1, h2, h3, h4⟩ := h
  rw [sub_and] at h4
  refine fnPure_of_eval (N := 100) (orcN_ok tabW_ok odLL_ok) mixed Try.func49 (by kernel_rfl) noLoops_ok ?_ rfl rfl
  obtain ⟨m', rfl⟩ : ∃ x : Nat, m = x := ⟨m.toNat, by omega⟩
  obtain ⟨g', rfl⟩ : ∃ x : Nat, g = x := ⟨g.toNat, by omega⟩
  rw [Int.toNat_natCast, Int.toNat_natCast] at h4
  have hg52 : g' < 4503599627370496 := sub_lt h4 (show m' < 2 ^ 52 by omega)
  have hk := cnt_sub h4 52
  have h52 := cnt_le m' 52
  rw [ord_eval, u_n (by omega), u_n (by omega), cond_true, cond_true, codes1, cond_true, cntI_52 (by omega), cntI_52 hg52, chq (by omega) hk]
  have hC : oc6 [(m' : Int), (g' : Int), 0, 0, 0, 0, ((cnt m' 52 : Nat) : Int), ((cnt g' 52 : Nat) : Int), n6.w0 ((bc (cnt m' 52) (cnt g' 52) : Nat) : Int), n6.w1 ((bc (cnt m' 52) (cnt g' 52) : Nat) : Int), n6.w2 ((bc (cnt m' 52) (cnt g' 52) : Nat) : Int), n6.w3 ((bc (cnt m' 52) (cnt g' 52) : Nat) : Int), (m' : Int)] = true := by
    unfold oc6
    rw [pB_iff, Int.toNat_natCast, Int.toNat_natCast]
    exact ⟨by omega, by omega, rfl, by omega, h4, rfl, rfl, rfl, rfl, rfl, rfl, rfl, rfl, rfl, rfl⟩
  rw [hC, cond_true]
end Go.Proofs.Ytpalajfcffdhoaa
