/- Texts merged: OrdL, OrdP. -/
import Derived.Test.YtpalajfcffdhoaaGreatDoorSubL
/- Chapter 6: order: its loop. -/
namespace Go.Proofs.YtpalajfcffdhoaaGreatDoor
open Go Go.Eng Go.Deal
theorem odCodes : codesOk [(odA, odA), (odB, odB)] := by intro x hx; simp at hx; rcases hx with rfl | rfl <;> rfl
theorem bitI_n {r c : Nat} (hr : r < 18446744073709551616) (hc : c < 64) : bitI (r : Int) (c : Int) = if r.testBit c then 1 else 0 := by
  unfold bitI
  have sh : shAmt .u64 (c : Int) = c := by
    unfold shAmt
    show min ((c : Int)).toNat 64 = c
    omega
  have e : ((r : Int).fdiv (2 ^ c)) = ((r / 2 ^ c : Nat) : Int) := by
    rw [show (2 : Int) ^ c = ((2 ^ c : Nat) : Int) by rw [Int.natCast_pow]; rfl]
    exact fdivN _ _ (Nat.two_pow_pos c)
  rw [sh, e]
  have := and_nat (a := r / 2 ^ c) (b := 1) (Nat.lt_of_le_of_lt (Nat.div_le_self _ _) hr) (by omega)
  rw [show ((1 : Nat) : Int) = 1 from rfl] at this
  rw [this, Nat.and_one_is_mod, Nat.testBit_eq_decide_div_mod_eq]
  by_cases h : r / 2 ^ c % 2 = 1
  · rw [h, decide_eq_true rfl]; rfl
  · rw [decide_eq_false h, show r / 2 ^ c % 2 = 0 by omega]; rfl
def odEnc (m g : Nat) (x : Nat × Nat) : List PV := [.i ((m % 2 ^ x.1 : Nat) : Int), .i (g : Int), .i (N2.w0 (x.2 : Int)), .i (N2.w1 (x.2 : Int)), .i (N2.w2 (x.2 : Int)), .i (N2.w3 (x.2 : Int)), .i ((cnt m x.1 : Nat) : Int), .i ((cnt g x.1 : Nat) : Int),
  .i (N2.w0 ((bc (cnt m x.1) (cnt g x.1) : Nat) : Int)), .i (N2.w1 ((bc (cnt m x.1) (cnt g x.1) : Nat) : Int)), .i (N2.w2 ((bc (cnt m x.1) (cnt g x.1) : Nat) : Int)), .i (N2.w3 ((bc (cnt m x.1) (cnt g x.1) : Nat) : Int)), .i (m : Int)]
def odEnd (m g a : Nat) : List PV := [.i (g : Int), .i (N2.w0 (a : Int)), .i (N2.w1 (a : Int)), .i (N2.w2 (a : Int)), .i (N2.w3 (a : Int)), .i 0, .i 0, .i 1, .i 0, .i 0, .i 0, .i (m : Int)]
def odFin (m g : Nat) (x : Nat × Nat) : XE × List PV := (.exit 0, odEnd m g (x.2 + rank m g x.1))
theorem od_loop (rd : Option Nat) (m g : Nat) (hs : Sub g m) (hg : g < 4503599627370496) : ∀ x : Nat × Nat, (x.1 ≤ 52 ∧ x.2 + rank m g x.1 < 340282366920938463463374607431768211456) →
    SimC Tryz.prog 9 rd (.loop sbLp) (odT.at (odEnc m g x)) (odFin m g x).1 (odX.at (odFin m g x).2) := by
  refine loop_of_rounds (C := orcN n6 (tabW n6 k6 w6) plainL) (L := noLoops) (N := 100) (me := 117) (T := odT) (T' := odX) (orcN_ok tabW_ok plainL_ok) mixed noLoops_ok (by kernel_rfl) (by kernel_rfl) (X := Nat × Nat)
    (odEnc m g) (fun x => x.1 ≤ 52 ∧ x.2 + rank m g x.1 < 340282366920938463463374607431768211456) (fun x => x.1) (odFin m g) ?_
  rintro ⟨p, a⟩ ⟨hp, ha⟩
  dsimp only at hp ha
  have hk := cnt_sub hs p
  have hc52 : cnt m p ≤ 52 := Nat.le_trans (cnt_le m p) hp
  have hb := bc_52 (k := cnt g p) hc52
  have h := od_round n6 k6 w6 rd ((m % 2 ^ p : Nat) : Int) g (N2.w0 (a : Int)) (N2.w1 (a : Int)) (N2.w2 (a : Int)) (N2.w3 (a : Int)) ((cnt m p : Nat) : Int) ((cnt g p : Nat) : Int)
    (N2.w0 ((bc (cnt m p) (cnt g p) : Nat) : Int)) (N2.w1 ((bc (cnt m p) (cnt g p) : Nat) : Int)) (N2.w2 ((bc (cnt m p) (cnt g p) : Nat) : Int)) (N2.w3 ((bc (cnt m p) (cnt g p) : Nat) : Int)) m
  unfold odN at h
  by_cases h0 : m % 2 ^ p = 0
  · obtain ⟨z1, _, _, z4⟩ := none_all (mod_zero h0)
    have zg : cnt g p = 0 := by omega
    rw [h0, decide_eq_true (show ((0 : Nat) : Int) = 0 from rfl), z1, zg, bc_zero, w01, w11, w21, w31, Bool.not_true, cond_false] at h
    unfold odSt at h
    unfold odEnc
    dsimp only
    rw [h0, z1, zg, bc_zero, w01, w11, w21, w31]
    refine ⟨_, _, _, h, odCodes, .inr ⟨(fun h => by cases h), ?_⟩⟩
    unfold odFin
    dsimp only
    rw [z4, Nat.add_zero]
    rfl
  · obtain ⟨t, ht, hbl, hmt, hab, hnd⟩ := top_spec (m := m) (p := p) (by omega) h0
    have hgab : ∀ j, t < j → j < p → g.testBit j = false := fun j h1 h2 => by
      cases hq : g.testBit j with
      | false => rfl
      | true => have := hs j hq; rw [hab j h1 h2] at this; cases this
    have e1 := cnt_skip ht hab
    have e2 := rank_skip g ht hab
    have e3 := cnt_skip ht hgab
    rw [cnt_s, if_pos hmt] at e1
    have hm52 := mod52 (m := m) hp
    have hE : odEnc m g (p, a) = odEnc m g (p, a) := rfl
    conv at hE => rhs; unfold odEnc
    dsimp only at hE
    rw [← hE] at h
    rw [decide_eq_false (show ¬ ((m % 2 ^ p : Nat) : Int) = 0 by omega), u_n (by omega), len_n hbl (by omega), Bool.not_false, cond_true, cond_true] at h
    have hz := zq (x := bc (cnt m p) (cnt g p)) (by omega)
    have hkk : k6 ((bc (cnt m p) (cnt g p) : Nat) : Int) ((cnt m p : Nat) : Int) ((cnt g p : Nat) : Int) = true := by
      unfold k6; rw [decide_eq_true_eq]; omega
    rw [hz, ini, hkk, w6_is (by omega) (by omega), Bool.and_true, cond_true] at h
    have hf := bc_52 (n := cnt m p - 1) (k := cnt g p) (by omega)
    have hb64 : 2 ^ t < 18446744073709551616 := by have := p52 (p := t) (by omega); omega
    unfold odK at h
    rw [decide_eq_false (show ¬ (t : Int) < 0 by omega), bitI_n (by omega) (by omega), shlI_n (by omega), andNot_nat (by omega) hb64, hnd, wr64 (x := ((cnt m p : Nat) : Int) - 1) (by omega) (by omega), show ((cnt m p : Nat) : Int) - 1 = ((cnt m t : Nat) : Int) by omega, nw0, nw1, nw2, nw3, cond_false] at h
    rw [show cnt m p - 1 = cnt m t by omega] at h hf
    by_cases hgt : g.testBit t = true
    · rw [cnt_s, if_pos hgt] at e3
      have er : rank m g p = bc (cnt m t) (cnt g t + 1) + rank m g t := by
        rw [e2]; simp only [rank]; rw [hmt, hgt, cnt_s, if_pos hgt]; rfl
      have ebc : bc (cnt m p) (cnt g p) = bc (cnt m t) (cnt g t) + bc (cnt m t) (cnt g t + 1) := by rw [e1, e3, bc]
      rw [if_pos hgt, decide_eq_false (show ¬ (1 : Int) = 0 by decide), cond_false, ini (a : Int), ii, Bool.and_true, cond_true, ini ((bc (cnt m p) (cnt g p) : Nat) : Int), Bool.and_true, cond_true, cond_false, zq (x := a) (by omega), zq (x := bc (cnt m p) (cnt g p)) (by omega), qq (by omega), subq (by rw [ebc, e3]; omega),
        addq (by rw [e3]; omega), wr64 (x := ((cnt g p : Nat) : Int) - 1) (by omega) (by omega), show ((cnt g p : Nat) : Int) - 1 = ((cnt g t : Nat) : Int) by omega, ebc, e3, Nat.add_sub_cancel] at h
      unfold odSt at h
      refine ⟨_, _, _, h, odCodes, .inl ⟨rfl, (t, a + bc (cnt m t) (cnt g t + 1)), ?_, ⟨by dsimp only; omega, by dsimp only; omega⟩, ht, ?_⟩⟩
      · unfold odEnc; rfl
      · unfold odFin; dsimp only; rw [er, Nat.add_assoc]
    · rw [cnt_s, if_neg hgt] at e3
      have er : rank m g p = rank m g t := by
        rw [e2]; simp only [rank]; rw [Bool.eq_false_iff.2 hgt, Bool.and_false]; rfl
      rw [if_neg hgt, decide_eq_true (show (0 : Int) = 0 from rfl), cond_true, cond_false, e3] at h
      unfold odSt at h
      refine ⟨_, _, _, h, odCodes, .inl ⟨rfl, (t, a), ?_, ⟨by dsimp only; omega, by dsimp only; omega⟩, ht, ?_⟩⟩
      · unfold odEnc; rfl
      · unfold odFin; dsimp only; rw [er]
end Go.Proofs.YtpalajfcffdhoaaGreatDoor

/- Chapter 6: order's contract. -/
namespace Go.Proofs.YtpalajfcffdhoaaGreatDoor
open Go Go.Eng Go.Deal
section
variable (N : N6) (K : Int → Int → Int → Bool) (W : Int → Int → Int → Int) (C : List Int → Bool) (G : Int → Int → Int)
noncomputable def odTree : List PV → Fin
  | [.i r, .i g, .i i0, .i i1, .i i2, .i i3, .i n, .i k, .i c0, .i c1, .i c2, .i c3, .i m] => .br (C [r, g, i0, i1, i2, i3, n, k, c0, c1, c2, c3, m])
      (.leaf (.exit 0) (odX.at [.i g, .i (N.w0 (G m g)), .i (N.w1 (G m g)), .i (N.w2 (G m g)), .i (N.w3 (G m g)), .i 0, .i 0, .i 1, .i 0, .i 0, .i 0, .i m])) .no
  | _ => .no
noncomputable def odLL : FuncId → Loops := fun f => match f with
  | 117 => sums (fun n => match n with | 1 => some (lsumF 9 odT sbLp (odTree N C G)) | _ => none)
  | _ => noLoops
theorem ord_eval (m g : Int) : evalFn Tryz.prog (orcN N (tabW N K W) (odLL N C G)) noLoops 100 67 Tryz.f67 [.int .u64 m, .int .u64 g] [] (fun v _ => some v) =
    bif N.u m then bif N.u g then cond (codesB [(sbLp, sbLp), (odA, odA), (odB, odB)]) (bif C [m, g, 0, 0, 0, 0, N.oc m, N.oc g, N.w0 (N.ch (N.oc m) (N.oc g)), N.w1 (N.ch (N.oc m) (N.oc g)), N.w2 (N.ch (N.oc m) (N.oc g)), N.w3 (N.ch (N.oc m) (N.oc g)), m] then
      some (N.nW (G m g)) else none) none else none else none := by kernel_rfl
end
noncomputable def oc6 : List Int → Bool
  | [r, g, i0, i1, i2, i3, n, k, c0, c1, c2, c3, m] => pB (0 ≤ m ∧ m < 4503599627370496 ∧ r = m ∧ 0 ≤ g ∧ Sub g.toNat m.toNat ∧ i0 = 0 ∧ i1 = 0 ∧ i2 = 0 ∧ i3 = 0 ∧ n = ((cnt m.toNat 52 : Nat) : Int) ∧ k = ((cnt g.toNat 52 : Nat) : Int) ∧
      c0 = N2.w0 ((bc (cnt m.toNat 52) (cnt g.toNat 52) : Nat) : Int) ∧ c1 = N2.w1 ((bc (cnt m.toNat 52) (cnt g.toNat 52) : Nat) : Int) ∧ c2 = N2.w2 ((bc (cnt m.toNat 52) (cnt g.toNat 52) : Nat) : Int) ∧ c3 = N2.w3 ((bc (cnt m.toNat 52) (cnt g.toNat 52) : Nat) : Int))
  | _ => false
def og6 (m g : Int) : Int := ((rank m.toNat g.toNat 52 : Nat) : Int)
theorem odLL_ok : ∀ f, loopsOk Tryz.prog (odLL n6 oc6 og6 f) := fun f => by
  unfold odLL
  split
  · intro n g hg
    simp only [sums] at hg
    split at hg
    · cases hg
      refine lsumF_ok (by kernel_rfl) (fun rd ps e1 s1 h => ?_)
      unfold odTree at h
      split at h
      · rename_i r g i0 i1 i2 i3 n k c0 c1 c2 c3 m
        simp only [Fin.pick] at h
        cases hc : oc6 [r, g, i0, i1, i2, i3, n, k, c0, c1, c2, c3, m] with
        | false => rw [hc] at h; cases h
        | true =>
          rw [hc, cond_true] at h
          unfold oc6 at hc
          rw [pB_iff] at hc
          obtain ⟨h1, h2, rfl, h3, h4, rfl, rfl, rfl, rfl, rfl, rfl, rfl, rfl, rfl, rfl⟩ := hc
          obtain ⟨m', rfl⟩ : ∃ x : Nat, r = x := ⟨r.toNat, by omega⟩
          obtain ⟨g', rfl⟩ : ∃ x : Nat, g = x := ⟨g.toNat, by omega⟩
          unfold og6 at h
          rw [Int.toNat_natCast, Int.toNat_natCast] at h h4
          rw [Int.toNat_natCast, Int.toNat_natCast]
          have hg52 : g' < 4503599627370496 := sub_lt h4 (show m' < 2 ^ 52 by omega)
          have hr := rank_lt h4 52
          have hb := bc_52 (n := cnt m' 52) (k := cnt g' 52) (cnt_le _ _)
          have hn := od_loop rd m' g' h4 hg52 (52, 0) ⟨Nat.le_refl _, by dsimp only; omega⟩
          have hE : odEnc m' g' (52, 0) = [.i (m' : Int), .i (g' : Int), .i 0, .i 0, .i 0, .i 0, .i ((cnt m' 52 : Nat) : Int), .i ((cnt g' 52 : Nat) : Int),
              .i (N2.w0 ((bc (cnt m' 52) (cnt g' 52) : Nat) : Int)), .i (N2.w1 ((bc (cnt m' 52) (cnt g' 52) : Nat) : Int)), .i (N2.w2 ((bc (cnt m' 52) (cnt g' 52) : Nat) : Int)), .i (N2.w3 ((bc (cnt m' 52) (cnt g' 52) : Nat) : Int)), .i (m' : Int)] := by
            unfold odEnc
            dsimp only
            rw [mod_self52 (by omega), w00, w10, w20, w30]
          have hF : odFin m' g' (52, 0) = (.exit 0, odEnd m' g' (rank m' g' 52)) := by
            unfold odFin; dsimp only; rw [Nat.zero_add]
          rw [hE, hF] at hn
          cases h
          exact hn
      · cases h
    · cases hg
  · exact noLoops_ok
def odOk (m g : Int) : Bool := decide (0 ≤ m ∧ m < 4503599627370496 ∧ 0 ≤ g ∧ g.toNat &&& m.toNat = g.toNat)
theorem sub_and {g m : Nat} : g &&& m = g ↔ Sub g m := by
  constructor
  · intro h i hi
    rw [← h, Nat.testBit_and, Bool.and_eq_true] at hi
    exact hi.2
  · intro h
    refine Nat.eq_of_testBit_eq fun i => ?_
    rw [Nat.testBit_and]
    cases hq : g.testBit i with
    | false => rfl
    | true => rw [h i hq]; rfl
theorem ord_p {m g : Int} (h : odOk m g = true) : FnPure Tryz.prog 67 [.int .u64 m, .int .u64 g] (n6.nW (og6 m g)) := by
  unfold odOk at h
  rw [decide_eq_true_eq] at h
  obtain ⟨h1, h2, h3, h4⟩ := h
  rw [sub_and] at h4
  refine fnPure_of_eval (N := 100) (orcN_ok tabW_ok odLL_ok) mixed Tryz.func67 (by kernel_rfl) noLoops_ok ?_ rfl rfl
  obtain ⟨m', rfl⟩ : ∃ x : Nat, m = x := ⟨m.toNat, by omega⟩
  obtain ⟨g', rfl⟩ : ∃ x : Nat, g = x := ⟨g.toNat, by omega⟩
  rw [Int.toNat_natCast, Int.toNat_natCast] at h4
  have hg52 : g' < 4503599627370496 := sub_lt h4 (show m' < 2 ^ 52 by omega)
  have hk := cnt_sub h4 52
  have h52 := cnt_le m' 52
  rw [ord_eval, u_n (by omega), u_n (by omega), cond_true, cond_true, codes1, cond_true, cntI_52 (by omega), cntI_52 hg52, chq (by omega) hk]
  have hC : oc6 [(m' : Int), (g' : Int), 0, 0, 0, 0, ((cnt m' 52 : Nat) : Int), ((cnt g' 52 : Nat) : Int), n6.w0 ((bc (cnt m' 52) (cnt g' 52) : Nat) : Int), n6.w1 ((bc (cnt m' 52) (cnt g' 52) : Nat) : Int), n6.w2 ((bc (cnt m' 52) (cnt g' 52) : Nat) : Int), n6.w3 ((bc (cnt m' 52) (cnt g' 52) : Nat) : Int), (m' : Int)] = true := by
    unfold oc6
    rw [pB_iff, Int.toNat_natCast, Int.toNat_natCast]
    exact ⟨by omega, by omega, rfl, by omega, h4, rfl, rfl, rfl, rfl, rfl, rfl, rfl, rfl, rfl, rfl⟩
  rw [hC, cond_true]
end Go.Proofs.YtpalajfcffdhoaaGreatDoor
