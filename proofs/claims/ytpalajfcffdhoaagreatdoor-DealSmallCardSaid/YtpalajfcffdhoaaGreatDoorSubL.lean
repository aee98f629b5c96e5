/- Texts merged: SubL, SubP, SubQ. -/
import Derived.Test.YtpalajfcffdhoaaGreatDoorOrdR
/- Chapter 6: subset: its loop, its contract. -/
namespace Go.Proofs.YtpalajfcffdhoaaGreatDoor
open Go Go.Eng Go.Deal
theorem sbCodes : codesOk [(sbA, sbA), (sbB, sbB)] := by intro x hx; simp at hx; rcases hx with rfl | rfl <;> rfl
structure SX where
  p : Nat
  k : Nat
  i : Nat
  g : Nat
def sbEnc (m : Nat) (x : SX) : List PV := [.i ((m % 2 ^ x.p : Nat) : Int), .i (x.k : Int), .i (N2.w0 (x.i : Int)), .i (N2.w1 (x.i : Int)), .i (N2.w2 (x.i : Int)), .i (N2.w3 (x.i : Int)), .i (x.g : Int), .i ((cnt m x.p : Nat) : Int),
  .i (N2.w0 ((bc (cnt m x.p) x.k : Nat) : Int)), .i (N2.w1 ((bc (cnt m x.p) x.k : Nat) : Int)), .i (N2.w2 ((bc (cnt m x.p) x.k : Nat) : Int)), .i (N2.w3 ((bc (cnt m x.p) x.k : Nat) : Int)), .i (m : Int)]
def sbEnd (m g n : Nat) : List PV := [.i 0, .i 0, .i 0, .i 0, .i 0, .i (g : Int), .i (n : Int), .i 1, .i 0, .i 0, .i 0, .i (m : Int)]
def sbFin (m : Nat) (x : SX) : XE × List PV := match pe m x.p x.k x.i with
  | none => (.exit 0, sbEnd m (x.g ||| pick m x.p x.k x.i) 0)
  | some q => (.ret, sbEnd m (x.g ||| pick m x.p x.k x.i) q)
def sbInv (m : Nat) (x : SX) : Prop := x.p ≤ 52 ∧ x.i < bc (cnt m x.p) x.k ∧ x.g < 2 ^ 52
theorem shlI_n {t : Nat} (h : t < 64) : shlI (t : Int) = ((2 ^ t : Nat) : Int) := bit1 h
theorem len_n {m p t : Nat} (ht : Lib.bitLen (m % 2 ^ p) = t + 1) (hp : t < 64) : wr .i64 (n6.len ((m % 2 ^ p : Nat) : Int) - 1) = (t : Int) := by
  rw [show n6.len = lenI from rfl]
  unfold lenI
  rw [Int.toNat_natCast, ht, wr64 (by omega) (by omega)]; omega
theorem u_n {x : Nat} (h : x < 18446744073709551616) : n6.u (x : Int) = true := by
  rw [show n6.u = in64 from rfl, in64_iff]; omega
theorem nw0 : n6.w0 = N2.w0 := rfl
theorem nw1 : n6.w1 = N2.w1 := rfl
theorem nw2 : n6.w2 = N2.w2 := rfl
theorem nw3 : n6.w3 = N2.w3 := rfl
theorem w00 : N2.w0 ((0 : Nat) : Int) = 0 := by decide
theorem w10 : N2.w1 ((0 : Nat) : Int) = 0 := by decide
theorem w20 : N2.w2 ((0 : Nat) : Int) = 0 := by decide
theorem w30 : N2.w3 ((0 : Nat) : Int) = 0 := by decide
theorem w01 : N2.w0 ((1 : Nat) : Int) = 1 := by decide
theorem w11 : N2.w1 ((1 : Nat) : Int) = 0 := by decide
theorem w21 : N2.w2 ((1 : Nat) : Int) = 0 := by decide
theorem w31 : N2.w3 ((1 : Nat) : Int) = 0 := by decide
theorem p52 {p : Nat} (h : p ≤ 52) : 2 ^ p ≤ 4503599627370496 := Nat.pow_le_pow_right (n := 2) (by decide) h
theorem mod52 {m p : Nat} (h : p ≤ 52) : m % 2 ^ p < 4503599627370496 := Nat.lt_of_lt_of_le (Nat.mod_lt _ (Nat.two_pow_pos p)) (p52 h)
theorem bc_pos_k {n k i : Nat} (h : i < bc n k) : k ≤ n := by
  rcases Nat.lt_or_ge n k with h' | h'
  · rw [bc_big h'] at h; omega
  · exact h'
theorem sb_loop (rd : Option Nat) (m : Nat) : ∀ x : SX, sbInv m x →
    ∃ n, SimL Tryz.prog 8 rd sbLp n (sbT.at (sbEnc m x)) (sbFin m x).1 ((sbE (sbFin m x).1).at (sbFin m x).2) := by
  refine loop_of_roundsX_n (C := orcN n6 (tabW n6 k6 w6) plainL) (L := noLoops) (N := 100) (me := 117) (T := sbT) (T' := sbE) (orcN_ok tabW_ok plainL_ok) mixed noLoops_ok (by kernel_rfl) sbE_ok (X := SX)
    (sbEnc m) (sbInv m) (fun x => x.p) (sbFin m) ?_
  rintro ⟨p, k, i, g⟩ ⟨hp, hi, hg⟩
  dsimp only at hp hi hg
  have hk := bc_pos_k hi
  have hc52 : cnt m p ≤ 52 := Nat.le_trans (cnt_le m p) hp
  have hb := bc_52 (k := k) hc52
  have h := sb_round n6 k6 w6 rd ((m % 2 ^ p : Nat) : Int) k (N2.w0 (i : Int)) (N2.w1 (i : Int)) (N2.w2 (i : Int)) (N2.w3 (i : Int)) g ((cnt m p : Nat) : Int)
    (N2.w0 ((bc (cnt m p) k : Nat) : Int)) (N2.w1 ((bc (cnt m p) k : Nat) : Int)) (N2.w2 ((bc (cnt m p) k : Nat) : Int)) (N2.w3 ((bc (cnt m p) k : Nat) : Int)) m
  unfold sbN at h
  by_cases h0 : m % 2 ^ p = 0
  · obtain ⟨z1, z2, z3, _⟩ := none_all (mod_zero h0)
    have hk0 : k = 0 := by omega
    subst hk0
    rw [bc_zero] at hi
    have hi0 : i = 0 := Nat.lt_one_iff.1 hi
    subst hi0
    rw [h0, decide_eq_true (show ((0 : Nat) : Int) = 0 from rfl), z1, bc_zero, w00, w10, w20, w30, w01, w11, w21, w31] at h
    simp only [Bool.not_true, cond_false] at h
    unfold sbSt at h
    unfold sbEnc
    dsimp only
    rw [h0, z1, bc_zero, w00, w10, w20, w30, w01, w11, w21, w31]
    refine ⟨_, _, _, h, sbCodes, .inr ⟨(fun h => by cases h), ?_⟩⟩
    unfold sbFin
    dsimp only
    rw [z3, z2, Nat.or_zero]
    rfl
  · obtain ⟨t, ht, hbl, hmt, hab, hnd⟩ := top_spec (m := m) (p := p) (by omega) h0
    have e1 := cnt_skip ht hab
    have e2 := pick_skip k i ht hab
    have e3 := pe_skip k i ht hab
    rw [cnt_s, if_pos hmt] at e1
    simp only [pick] at e2
    simp only [pe] at e3
    rw [if_pos hmt] at e2 e3
    have hm52 := mod52 (m := m) hp
    rw [decide_eq_false (show ¬ ((m % 2 ^ p : Nat) : Int) = 0 by omega), u_n (by omega), len_n hbl (by omega)] at h
    rw [Bool.not_false, cond_true, cond_true] at h
    by_cases hk0 : k = 0
    · rw [if_pos hk0] at e2 e3
      rw [cnt_s, if_pos hmt, ← e1] at e3
      rw [hk0, bc_zero] at hi
      have hi0 : i = 0 := Nat.lt_one_iff.1 hi
      rw [hk0, hi0, decide_eq_true (show ((0 : Nat) : Int) = 0 from rfl), cond_true, bc_zero, w00, w10, w20, w30, w01, w11, w21, w31] at h
      unfold sbSt at h
      have hE : sbEnc m ⟨p, 0, 0, g⟩ = sbEnc m ⟨p, 0, 0, g⟩ := rfl
      conv at hE => rhs; unfold sbEnc
      dsimp only at hE
      rw [bc_zero, w00, w10, w20, w30, w01, w11, w21, w31] at hE
      have hE2 : sbEnc m ⟨p, k, i, g⟩ = sbEnc m ⟨p, 0, 0, g⟩ := by rw [hk0, hi0]
      have hF : sbFin m ⟨p, k, i, g⟩ = (.ret, sbEnd m g (cnt m p)) := by
        unfold sbFin
        dsimp only
        rw [e2, e3, Nat.or_zero]
      rw [← hE, ← hE2] at h
      refine ⟨_, _, _, h, sbCodes, .inr ⟨(fun h => by cases h), ?_⟩⟩
      rw [hF]
      rfl
    · rw [if_neg hk0] at e2 e3
      have hz := zq (x := bc (cnt m p) k) (by omega)
      have hkk : k6 ((bc (cnt m p) k : Nat) : Int) ((cnt m p : Nat) : Int) (k : Int) = true := by
        unfold k6; rw [decide_eq_true_eq]; omega
      rw [decide_eq_false (show ¬ (k : Int) = 0 by omega), hz, ini, hkk, w6_is (by omega) (by omega), e1, Nat.add_sub_cancel] at h
      rw [cond_false, Bool.and_true, cond_true] at h
      have hf := bc_52 (n := cnt m t) (k := k) (by omega)
      have hle : bc (cnt m t) k ≤ bc (cnt m t + 1) k ∧ bc (cnt m t + 1) k - bc (cnt m t) k = bc (cnt m t) (k - 1) := by
        obtain ⟨j, rfl⟩ : ∃ j, k = j + 1 := ⟨k - 1, by omega⟩
        rw [Nat.add_sub_cancel, bc]; omega
      rw [e1] at hi
      have hiz := zq (x := i) (by rw [e1] at hb; omega)
      have hz' := zq (x := bc (cnt m t + 1) k) (by rw [e1] at hb; omega)
      unfold sbK at h
      rw [ini, ii, hiz, qq (by omega), cmpq, shlI_n (by omega), andNot_nat (by omega) (by have := p52 (p := t) (by omega); omega), hnd, wr64 (x := ((cnt m t + 1 : Nat) : Int) - 1) (by omega) (by omega), show ((cnt m t + 1 : Nat) : Int) - 1 = ((cnt m t : Nat) : Int) by omega, decide_eq_false (show ¬ (t : Int) < 0 by omega), nw0, nw1, nw2, nw3] at h
      rw [Bool.and_true, cond_true] at h
      by_cases hlt : i < bc (cnt m t) k
      · rw [decide_eq_true hlt, cond_true] at h
        rw [if_pos hlt] at e2 e3
        unfold sbSt at h
        have hE : sbEnc m ⟨p, k, i, g⟩ = sbEnc m ⟨p, k, i, g⟩ := rfl
        conv at hE => rhs; unfold sbEnc
        dsimp only at hE
        rw [e1] at hE
        rw [← hE] at h
        refine ⟨_, _, _, h, sbCodes, .inl ⟨rfl, ⟨t, k, i, g⟩, ?_, ⟨by dsimp only; omega, hlt, hg⟩, ht, ?_⟩⟩
        · unfold sbEnc
          rfl
        · unfold sbFin; dsimp only; rw [e2, e3]
      · rw [decide_eq_false hlt, cond_false] at h
        rw [if_neg hlt] at e2 e3
        have hor : bitsI .or .u64 (g : Int) ((2 ^ t : Nat) : Int) = ((g ||| 2 ^ t : Nat) : Int) := or_nat (by omega) (by have := p52 (p := t) (by omega); omega)
        rw [ini ((bc (cnt m t + 1) k : Nat) : Int)] at h
        rw [Bool.and_true, cond_true, cond_false] at h
        rw [hz', subq (by omega), subq (by omega), hor, wr64 (x := (k : Int) - 1) (by omega) (by omega), show (k : Int) - 1 = ((k - 1 : Nat) : Int) by omega, hle.2] at h
        unfold sbSt at h
        have hE : sbEnc m ⟨p, k, i, g⟩ = sbEnc m ⟨p, k, i, g⟩ := rfl
        conv at hE => rhs; unfold sbEnc
        dsimp only at hE
        rw [e1] at hE
        rw [← hE] at h
        have htl : pick m t (k - 1) (i - bc (cnt m t) k) < 2 ^ t := pick_lt _ _ _ _
        refine ⟨_, _, _, h, sbCodes, .inl ⟨rfl, ⟨t, k - 1, i - bc (cnt m t) k, g ||| 2 ^ t⟩, ?_, ⟨by dsimp only; omega, by dsimp only; omega, put_lt (by omega) hg⟩, ht, ?_⟩⟩
        · unfold sbEnc
          rfl
        · have hpo : 2 ^ t + pick m t (k - 1) (i - bc (cnt m t) k) = 2 ^ t ||| pick m t (k - 1) (i - bc (cnt m t) k) := by
            have := Nat.two_pow_add_eq_or_of_lt htl 1
            rw [Nat.mul_one] at this; exact this
          unfold sbFin; dsimp only; rw [e2, e3, hpo, Nat.or_assoc]
end Go.Proofs.YtpalajfcffdhoaaGreatDoor

/- Chapter 6: subset's contract. -/
namespace Go.Proofs.YtpalajfcffdhoaaGreatDoor
open Go Go.Eng Go.Deal
section
variable (N : N6) (K : Int → Int → Int → Bool) (W : Int → Int → Int → Int) (C : List Int → Bool) (R : Int → Int → Int → Bool) (G Q : Int → Int → Int → Int)
noncomputable def sbTree : List PV → Fin
  | [.i r, .i k, .i i0, .i i1, .i i2, .i i3, .i g, .i n, .i c0, .i c1, .i c2, .i c3, .i m] => .br (C [r, k, i0, i1, i2, i3, g, n, c0, c1, c2, c3, m])
      (.br (R m k (N.z i0 i1 i2 i3)) (.leaf .ret (sbD.at [.i 0, .i 0, .i 0, .i 0, .i 0, .i (G m k (N.z i0 i1 i2 i3)), .i (Q m k (N.z i0 i1 i2 i3)), .i 1, .i 0, .i 0, .i 0, .i m]))
        (.leaf (.exit 0) (sbX.at [.i 0, .i 0, .i 0, .i 0, .i 0, .i (G m k (N.z i0 i1 i2 i3)), .i 0, .i 1, .i 0, .i 0, .i 0, .i m]))) .no
  | _ => .no
noncomputable def sbLL : FuncId → Loops := fun f => match f with
  | 117 => sums (fun n => match n with | 1 => some (lsumF 8 sbT sbLp (sbTree N C R G Q)) | _ => none)
  | _ => noLoops
theorem sub_eval (m k a b c d : Int) : evalFn Tryz.prog (orcN N (tabW N K W) (sbLL N C R G Q)) noLoops 100 64 Tryz.f64 [.int .u64 m, .int .i64 k, .agg [.int .u32 a, .int .u32 b, .int .u32 c, .int .u32 d]] [] (fun v _ => some v) =
    bif N.u m then cond (codesB [(sbLp, sbLp), (sbA, sbA), (sbB, sbB)]) (bif C [m, k, a, b, c, d, 0, N.oc m, N.w0 (N.ch (N.oc m) k), N.w1 (N.ch (N.oc m) k), N.w2 (N.ch (N.oc m) k), N.w3 (N.ch (N.oc m) k), m] then
      bif R m k (N.z a b c d) then some (.int .u64 (G m k (N.z a b c d))) else some (.int .u64 (G m k (N.z a b c d))) else none) none else none := by kernel_rfl
end
end Go.Proofs.YtpalajfcffdhoaaGreatDoor

/- Chapter 6: subset's contract, with the names' meaning. -/
namespace Go.Proofs.YtpalajfcffdhoaaGreatDoor
open Go Go.Eng Go.Deal
noncomputable def c6 : List Int → Bool
  | [r, k, i0, i1, i2, i3, g, n, c0, c1, c2, c3, m] => pB (0 ≤ m ∧ m < 4503599627370496 ∧ r = m ∧ 0 ≤ k ∧ N2.inN i0 i1 i2 i3 = true ∧ N2.nval i0 i1 i2 i3 < ((bc (cnt m.toNat 52) k.toNat : Nat) : Int) ∧ g = 0 ∧ n = ((cnt m.toNat 52 : Nat) : Int) ∧
      c0 = N2.w0 ((bc (cnt m.toNat 52) k.toNat : Nat) : Int) ∧ c1 = N2.w1 ((bc (cnt m.toNat 52) k.toNat : Nat) : Int) ∧ c2 = N2.w2 ((bc (cnt m.toNat 52) k.toNat : Nat) : Int) ∧ c3 = N2.w3 ((bc (cnt m.toNat 52) k.toNat : Nat) : Int))
  | _ => false
def r6 (m k z : Int) : Bool := (pe m.toNat 52 k.toNat z.toNat).isSome
def g6 (m k z : Int) : Int := ((pick m.toNat 52 k.toNat z.toNat : Nat) : Int)
def q6 (m k z : Int) : Int := (((pe m.toNat 52 k.toNat z.toNat).getD 0 : Nat) : Int)
theorem mod_self52 {m : Nat} (h : m < 4503599627370496) : m % 2 ^ 52 = m := Nat.mod_eq_of_lt h
theorem sbLL_ok : ∀ f, loopsOk Tryz.prog (sbLL n6 c6 r6 g6 q6 f) := fun f => by
  unfold sbLL
  split
  · intro n g hg
    simp only [sums] at hg
    split at hg
    · cases hg
      refine lsumF_ok (by kernel_rfl) (fun rd ps e1 s1 h => ?_)
      unfold sbTree at h
      split at h
      · rename_i r k i0 i1 i2 i3 g n c0 c1 c2 c3 m
        simp only [Fin.pick] at h
        cases hc : c6 [r, k, i0, i1, i2, i3, g, n, c0, c1, c2, c3, m] with
        | false => rw [hc] at h; cases h
        | true =>
          rw [hc, cond_true] at h
          unfold c6 at hc
          rw [pB_iff] at hc
          obtain ⟨h1, h2, rfl, h3, h4, h5, rfl, rfl, rfl, rfl, rfl, rfl⟩ := hc
          obtain ⟨b1, b2, b3, b4⟩ := N2.w_nval h4
          have hr := N2.nval_range h4
          obtain ⟨m', rfl⟩ : ∃ x : Nat, r = x := ⟨r.toNat, by omega⟩
          obtain ⟨k', rfl⟩ : ∃ x : Nat, k = x := ⟨k.toNat, by omega⟩
          obtain ⟨z, hz⟩ : ∃ z : Nat, N2.nval i0 i1 i2 i3 = z := ⟨_, (Int.toNat_of_nonneg hr.1).symm⟩
          have hz' : n6.z i0 i1 i2 i3 = z := hz
          rw [hz'] at h
          rw [hz] at b1 b2 b3 b4 h5
          rw [Int.toNat_natCast, Int.toNat_natCast] at h5
          unfold r6 g6 q6 at h
          rw [Int.toNat_natCast, Int.toNat_natCast, Int.toNat_natCast] at h
          rw [Int.toNat_natCast, Int.toNat_natCast, ← b1, ← b2, ← b3, ← b4]
          obtain ⟨n, hn⟩ := sb_loop rd m' ⟨52, k', z, 0⟩ ⟨Nat.le_refl _, (by dsimp only; omega), (show 0 < 2 ^ 52 by decide)⟩
          have hE : sbEnc m' ⟨52, k', z, 0⟩ = [.i (m' : Int), .i (k' : Int), .i (N2.w0 (z : Int)), .i (N2.w1 (z : Int)), .i (N2.w2 (z : Int)), .i (N2.w3 (z : Int)), .i 0, .i ((cnt m' 52 : Nat) : Int),
              .i (N2.w0 ((bc (cnt m' 52) k' : Nat) : Int)), .i (N2.w1 ((bc (cnt m' 52) k' : Nat) : Int)), .i (N2.w2 ((bc (cnt m' 52) k' : Nat) : Int)), .i (N2.w3 ((bc (cnt m' 52) k' : Nat) : Int)), .i (m' : Int)] := by
            unfold sbEnc
            dsimp only
            rw [mod_self52 (by omega)]
            rfl
          rw [hE] at hn
          cases hp : pe m' 52 k' z with
          | none =>
            rw [hp] at h
            have hF : sbFin m' ⟨52, k', z, 0⟩ = (.exit 0, sbEnd m' (pick m' 52 k' z) 0) := by
              unfold sbFin; dsimp only; rw [hp, Nat.zero_or]
            rw [hF] at hn
            cases h
            exact hn.loop
          | some q =>
            rw [hp] at h
            have hF : sbFin m' ⟨52, k', z, 0⟩ = (.ret, sbEnd m' (pick m' 52 k' z) q) := by
              unfold sbFin; dsimp only; rw [hp, Nat.zero_or]
            rw [hF] at hn
            cases h
            exact hn.loop
      · cases h
    · cases hg
  · exact noLoops_ok
theorem cntI_52 {m : Nat} (h : m < 4503599627370496) : n6.oc (m : Int) = ((cnt m 52 : Nat) : Int) := by
  rw [show n6.oc = cntI from rfl]
  unfold cntI
  rw [Int.toNat_natCast, cnt_52 h]
theorem codes1 {a b c : Code} : codesB [(a, a), (b, b), (c, c)] = true := by rw [codesB_iff]; intro x hx; simp at hx; rcases hx with rfl | rfl | rfl <;> rfl
def sbOk (m k z : Int) : Bool := decide (0 ≤ m ∧ m < 4503599627370496 ∧ 0 ≤ k ∧ 0 ≤ z ∧ z < ((bc (cnt m.toNat 52) k.toNat : Nat) : Int))
theorem sub_p {m k a b c d : Int} (hi : N2.inN a b c d = true) (h : sbOk m k (N2.nval a b c d) = true) : FnPure Tryz.prog 64 [.int .u64 m, .int .i64 k, .agg [.int .u32 a, .int .u32 b, .int .u32 c, .int .u32 d]] (.int .u64 (g6 m k (N2.nval a b c d))) := by
  unfold sbOk at h
  rw [decide_eq_true_eq] at h
  obtain ⟨h1, h2, h3, h4, h5⟩ := h
  refine fnPure_of_eval (N := 100) (orcN_ok tabW_ok sbLL_ok) mixed Tryz.func64 (by kernel_rfl) noLoops_ok ?_ rfl rfl
  obtain ⟨m', rfl⟩ : ∃ x : Nat, m = x := ⟨m.toNat, by omega⟩
  obtain ⟨k', rfl⟩ : ∃ x : Nat, k = x := ⟨k.toNat, by omega⟩
  rw [Int.toNat_natCast, Int.toNat_natCast] at h5
  have hk := bc_pos_k (n := cnt m' 52) (k := k') (i := (N2.nval a b c d).toNat) (by omega)
  have h52 := cnt_le m' 52
  rw [sub_eval, u_n (by omega), cond_true, codes1, cond_true, cntI_52 (by omega), chq (by omega) hk]
  have hC : c6 [(m' : Int), (k' : Int), a, b, c, d, 0, ((cnt m' 52 : Nat) : Int), n6.w0 ((bc (cnt m' 52) k' : Nat) : Int), n6.w1 ((bc (cnt m' 52) k' : Nat) : Int), n6.w2 ((bc (cnt m' 52) k' : Nat) : Int), n6.w3 ((bc (cnt m' 52) k' : Nat) : Int), (m' : Int)] = true := by
    unfold c6
    rw [pB_iff, Int.toNat_natCast, Int.toNat_natCast]
    exact ⟨by omega, by omega, rfl, by omega, hi, h5, rfl, rfl, rfl, rfl, rfl, rfl⟩
  rw [hC, cond_true]
  show (bif _ then _ else _) = _
  rw [show n6.z = N2.nval from rfl]
  cases r6 (m' : Int) (k' : Int) (N2.nval a b c d) <;> rfl
end Go.Proofs.YtpalajfcffdhoaaGreatDoor
