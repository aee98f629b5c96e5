/- Texts merged: SubP, SubQ. -/
import Derived.Test.YtpalajfcffdhoaaDoorSubL
/- Chapter 6: subset's contract. -/
namespace Go.Proofs.YtpalajfcffdhoaaDoor
open Go Go.Eng Go.Deal
section
variable (N : N6) (K : Int → Int → Int → Bool) (W : Int → Int → Int → Int) (C : List Int → Bool) (R : Int → Int → Int → Bool) (G Q : Int → Int → Int → Int)
noncomputable def sbTree : List PV → Fin
  | [.i r, .i k, .i i0, .i i1, .i i2, .i i3, .i g, .i n, .i c0, .i c1, .i c2, .i c3, .i m] => .br (C [r, k, i0, i1, i2, i3, g, n, c0, c1, c2, c3, m])
      (.br (R m k (N.z i0 i1 i2 i3)) (.leaf .ret (sbD.at [.i 0, .i 0, .i 0, .i 0, .i 0, .i (G m k (N.z i0 i1 i2 i3)), .i (Q m k (N.z i0 i1 i2 i3)), .i 1, .i 0, .i 0, .i 0, .i m]))
        (.leaf (.exit 0) (sbX.at [.i 0, .i 0, .i 0, .i 0, .i 0, .i (G m k (N.z i0 i1 i2 i3)), .i 0, .i 1, .i 0, .i 0, .i 0, .i m]))) .no
  | _ => .no
noncomputable def sbLL : FuncId → Loops := fun f => match f with
  | 89 => sums (fun n => match n with | 1 => some (lsumF 8 sbT sbLp (sbTree N C R G Q)) | _ => none)
  | _ => noLoops
theorem sub_eval (m k a b c d : Int) : evalFn Tryd.prog (orcN N (tabW N K W) (sbLL N C R G Q)) noLoops 100 43 Tryd.f43 [.int .u64 m, .int .i64 k, .agg [.int .u32 a, .int .u32 b, .int .u32 c, .int .u32 d]] [] (fun v _ => some v) =
    bif N.u m then cond (codesB [(sbLp, sbLp), (sbA, sbA), (sbB, sbB)]) (bif C [m, k, a, b, c, d, 0, N.oc m, N.w0 (N.ch (N.oc m) k), N.w1 (N.ch (N.oc m) k), N.w2 (N.ch (N.oc m) k), N.w3 (N.ch (N.oc m) k), m] then
      bif R m k (N.z a b c d) then some (.int .u64 (G m k (N.z a b c d))) else some (.int .u64 (G m k (N.z a b c d))) else none) none else none := by kernel_rfl
end
end Go.Proofs.YtpalajfcffdhoaaDoor

/- Chapter 6: subset's contract, with the names' meaning. -/
namespace Go.Proofs.YtpalajfcffdhoaaDoor
open Go Go.Eng Go.Deal
noncomputable def c6 : List Int → Bool
  | [r, k, i0, i1, i2, i3, g, n, c0, c1, c2, c3, m] => pB (0 ≤ m ∧ m < 4503599627370496 ∧ r = m ∧ 0 ≤ k ∧ N2.inN i0 i1 i2 i3 = true ∧ N2.nval i0 i1 i2 i3 < ((bc (cnt m.toNat 52) k.toNat : Nat) : Int) ∧ g = 0 ∧ n = ((cnt m.toNat 52 : Nat) : Int) ∧
      c0 = N2.w0 ((bc (cnt m.toNat 52) k.toNat : Nat) : Int) ∧ c1 = N2.w1 ((bc (cnt m.toNat 52) k.toNat : Nat) : Int) ∧ c2 = N2.w2 ((bc (cnt m.toNat 52) k.toNat : Nat) : Int) ∧ c3 = N2.w3 ((bc (cnt m.toNat 52) k.toNat : Nat) : Int))
  | _ => false
def r6 (m k z : Int) : Bool := (pe m.toNat 52 k.toNat z.toNat).isSome
def g6 (m k z : Int) : Int := ((pick m.toNat 52 k.toNat z.toNat : Nat) : Int)
def q6 (m k z : Int) : Int := (((pe m.toNat 52 k.toNat z.toNat).getD 0 : Nat) : Int)
theorem mod_self52 {m : Nat} (h : m < 4503599627370496) : m % 2 ^ 52 = m := Nat.mod_eq_of_lt h
theorem sbLL_ok : ∀ f, loopsOk Tryd.prog (sbLL n6 c6 r6 g6 q6 f) := fun f => by
  unfold sbLL
  split
  · intro n g hg
    simp only [sums] at hg
    split at hg
    · cases hg
      refine lsumF_ok (by kernel_rfl) (fun rd ps e1 s1 h => ?_)
      unfold sbTree at h
      split at h
      · rename_i r k i0 i1 i2 i3 g n c0 c1 c2 c3 m
        simp only [Fin.pick] at h
        cases hc : c6 [r, k, i0, i1, i2, i3, g, n, c0, c1, c2, c3, m] with
        | false => rw [hc] at h; cases h
        | true =>
          rw [hc, cond_true] at h
          unfold c6 at hc
          rw [pB_iff] at hc
          obtain ⟨h1, h2, rfl, h3, h4, h5, rfl, rfl, rfl, rfl, rfl, rfl⟩ := hc
          obtain ⟨b1, b2, b3, b4⟩ := N2.w_nval h4
          have hr := N2.nval_range h4
          obtain ⟨m', rfl⟩ : ∃ x : Nat, r = x := ⟨r.toNat, by omega⟩
          obtain ⟨k', rfl⟩ : ∃ x : Nat, k = x := ⟨k.toNat, by omega⟩
          obtain ⟨z, hz⟩ : ∃ z : Nat, N2.nval i0 i1 i2 i3 = z := ⟨_, (Int.toNat_of_nonneg hr.1).symm⟩
          have hz' : n6.z i0 i1 i2 i3 = z := hz
          rw [hz'] at h
          rw [hz] at b1 b2 b3 b4 h5
          rw [Int.toNat_natCast, Int.toNat_natCast] at h5
          unfold r6 g6 q6 at h
          rw [Int.toNat_natCast, Int.toNat_natCast, Int.toNat_natCast] at h
          rw [Int.toNat_natCast, Int.toNat_natCast, ← b1, ← b2, ← b3, ← b4]
          obtain ⟨n, hn⟩ := sb_loop rd m' ⟨52, k', z, 0⟩ ⟨Nat.le_refl _, (by dsimp only; omega), (show 0 < 2 ^ 52 by decide)⟩
          have hE : sbEnc m' ⟨52, k', z, 0⟩ = [.i (m' : Int), .i (k' : Int), .i (N2.w0 (z : Int)), .i (N2.w1 (z : Int)), .i (N2.w2 (z : Int)), .i (N2.w3 (z : Int)), .i 0, .i ((cnt m' 52 : Nat) : Int),
              .i (N2.w0 ((bc (cnt m' 52) k' : Nat) : Int)), .i (N2.w1 ((bc (cnt m' 52) k' : Nat) : Int)), .i (N2.w2 ((bc (cnt m' 52) k' : Nat) : Int)), .i (N2.w3 ((bc (cnt m' 52) k' : Nat) : Int)), .i (m' : Int)] := by
            unfold sbEnc
            dsimp only
            rw [mod_self52 (by omega)]
            rfl
          rw [hE] at hn
          cases hp : pe m' 52 k' z with
          | none =>
            rw [hp] at h
            have hF : sbFin m' ⟨52, k', z, 0⟩ = (.exit 0, sbEnd m' (pick m' 52 k' z) 0) := by
              unfold sbFin; dsimp only; rw [hp, Nat.zero_or]
            rw [hF] at hn
            cases h
            exact hn.loop
          | some q =>
            rw [hp] at h
            have hF : sbFin m' ⟨52, k', z, 0⟩ = (.ret, sbEnd m' (pick m' 52 k' z) q) := by
              unfold sbFin; dsimp only; rw [hp, Nat.zero_or]
            rw [hF] at hn
            cases h
            exact hn.loop
      · cases h
    · cases hg
  · exact noLoops_ok
theorem cntI_52 {m : Nat} (h : m < 4503599627370496) : n6.oc (m : Int) = ((cnt m 52 : Nat) : Int) := by
  rw [show n6.oc = cntI from rfl]
  unfold cntI
  rw [Int.toNat_natCast, cnt_52 h]
theorem codes1 {a b c : Code} : codesB [(a, a), (b, b), (c, c)] = true := by rw [codesB_iff]; intro x hx; simp at hx; rcases hx with rfl | rfl | rfl <;> rfl
/-- subset's condition and answer. -/
def sbOk (m k z : Int) : Bool := decide (0 ≤ m ∧ m < 4503599627370496 ∧ 0 ≤ k ∧ 0 ≤ z ∧ z < ((bc (cnt m.toNat 52) k.toNat : Nat) : Int))
theorem sub_p {m k a b c d : Int} (hi : N2.inN a b c d = true) (h : sbOk m k (N2.nval a b c d) = true) : FnPure Tryd.prog 43 [.int .u64 m, .int .i64 k, .agg [.int .u32 a, .int .u32 b, .int .u32 c, .int .u32 d]] (.int .u64 (g6 m k (N2.nval a b c d))) := by
  unfold sbOk at h
  rw [decide_eq_true_eq] at h
  obtain ⟨h1, h2, h3, h4, h5⟩ := h
  refine fnPure_of_eval (N := 100) (orcN_ok tabW_ok sbLL_ok) mixed Tryd.func43 (by kernel_rfl) noLoops_ok ?_ rfl rfl
  obtain ⟨m', rfl⟩ : ∃ x : Nat, m = x := ⟨m.toNat, by omega⟩
  obtain ⟨k', rfl⟩ : ∃ x : Nat, k = x := ⟨k.toNat, by omega⟩
  rw [Int.toNat_natCast, Int.toNat_natCast] at h5
  have hk := bc_pos_k (n := cnt m' 52) (k := k') (i := (N2.nval a b c d).toNat) (by omega)
  have h52 := cnt_le m' 52
  rw [sub_eval, u_n (by omega), cond_true, codes1, cond_true, cntI_52 (by omega), chq (by omega) hk]
  have hC : c6 [(m' : Int), (k' : Int), a, b, c, d, 0, ((cnt m' 52 : Nat) : Int), n6.w0 ((bc (cnt m' 52) k' : Nat) : Int), n6.w1 ((bc (cnt m' 52) k' : Nat) : Int), n6.w2 ((bc (cnt m' 52) k' : Nat) : Int), n6.w3 ((bc (cnt m' 52) k' : Nat) : Int), (m' : Int)] = true := by
    unfold c6
    rw [pB_iff, Int.toNat_natCast, Int.toNat_natCast]
    exact ⟨by omega, by omega, rfl, by omega, hi, h5, rfl, rfl, rfl, rfl, rfl, rfl⟩
  rw [hC, cond_true]
  show (bif _ then _ else _) = _
  rw [show n6.z = N2.nval from rfl]
  cases r6 (m' : Int) (k' : Int) (N2.nval a b c d) <;> rfl
end Go.Proofs.YtpalajfcffdhoaaDoor
