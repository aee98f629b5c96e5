/- Texts merged: Zf, Zg, Zl, Zm. -/
import Derived.Test.YtojlmpcbplepcaaGreatZe
/- Chapter 10: the law IrregularSmall: its first loop. -/
namespace Go.Proofs.YtojlmpcbplepcaaGreat
open Go Go.Eng
noncomputable def smTr1 (j : Nat) (ps : List PV) : Fin := .br (pB (ps = .i 0 :: smLs)) (.leaf (.exit 2) ((smX1 j).at smLs)) .no
noncomputable def smTr2 (j : Nat) (ps : List PV) : Fin := .br (pB (ps = .i 0 :: smLs)) (.leaf (.exit 4) ((smX2 j).at smLs)) .no
noncomputable def smL0 (j : Nat) : Loops := sums (fun n => match n with
  | 6 => some (lsumD 0 (smT1 j) smLp1 (smTr1 j) noSum)
  | 12 => some (lsumD 0 (smT2 j) smLp2 (smTr2 j) noSum)
  | _ => none)
theorem smL0_ok {j : Nat} (hj : j < 16) : loopsOk Tryz.prog (smL0 j) := by
  intro n g hg
  simp only [smL0, sums] at hg
  split at hg
  · cases hg
    refine lsumD_ok (smT1_ok j hj).1 (fun rd ps e st h => ?_) noSum_ok
    obtain ⟨rfl, rfl, rfl⟩ := pick1 h
    obtain ⟨m, hm⟩ := sm1_loop rd hj 234 (Nat.le_refl _)
    exact hm.loop
  · cases hg
    refine lsumD_ok (smT2_ok j hj).1 (fun rd ps e st h => ?_) noSum_ok
    obtain ⟨rfl, rfl, rfl⟩ := pick1 h
    obtain ⟨m, hm⟩ := sm2_loop rd hj 12 (Nat.le_refl _)
    exact hm.loop
  · cases hg
noncomputable def smR0 (Q : NQm) (rd : Option Nat) (j : Nat) : Option (XE × List PV × List (Code × Code)) := roundX Tryz.prog (orcQm Q emptyTab) (smL0 j) 100 0 rd 3 smLp0 smT0 smT0 (fun _ => smX0) (.i (Int.ofNat j) :: smLs)
noncomputable def smE0 (j : Nat) : Option (XE × List PV × List (Code × Code)) := bif codesB [(smLp1, smLp1)] then bif pB (.i 0 :: smLs = .i 0 :: smLs) then bif codesB [(smLp2, smLp2)] then bif pB (.i 0 :: smLs = .i 0 :: smLs) then some (.normal, .i (Int.ofNat (j + 1)) :: smLs, []) else none else none else none else none
theorem sm0_round (Q : NQm) (rd : Option Nat) : ∀ j : Nat, j < 16 → smR0 Q rd j = smE0 j
  | 0, _ => by kernel_rfl
  | 1, _ => by kernel_rfl
  | 2, _ => by kernel_rfl
  | 3, _ => by kernel_rfl
  | 4, _ => by kernel_rfl
  | 5, _ => by kernel_rfl
  | 6, _ => by kernel_rfl
  | 7, _ => by kernel_rfl
  | 8, _ => by kernel_rfl
  | 9, _ => by kernel_rfl
  | 10, _ => by kernel_rfl
  | 11, _ => by kernel_rfl
  | 12, _ => by kernel_rfl
  | 13, _ => by kernel_rfl
  | 14, _ => by kernel_rfl
  | 15, _ => by kernel_rfl
  | n + 16, h => absurd h (by omega)
theorem sm0_exit (Q : NQm) (rd : Option Nat) : roundX Tryz.prog (orcQm Q emptyTab) noLoops 100 0 rd 3 smLp0 smT0 smT0 (fun _ => smX0) (.i 16 :: smLs) = some (.exit 0, [], []) := by kernel_rfl
theorem smT0_ok : smT0.ok = true ∧ smX0.ok = true := ⟨by kernel_rfl, by kernel_rfl⟩
/-- Rounds, each with loops of its own. -/
theorem loop_of_roundsZ {P : Program} {C : Oracle} {N n0 : Nat} {rd : Option Nat} {me : FuncId} {c : Code} {T : Tm} {T' : XE → Tm} (hm : P.follows .mixedOrders = true) (hC : OracleOk P C) (hk : T.ok = true) (hk' : ∀ e, (T' e).ok = true)
    {X : Type} (L : X → Loops) (enc : X → List PV) (inv : X → Prop) (hl : ∀ x, inv x → loopsOk P (L x)) (μ : X → Nat) (fin : X → XE × List PV)
    (round : ∀ x, inv x → ∃ e qs l, roundX P C (L x) N n0 rd me c T T T' (enc x) = some (e, qs, l) ∧ codesOk l ∧
      ((e = .normal ∧ ∃ y, qs = enc y ∧ inv y ∧ μ y < μ x ∧ fin y = fin x) ∨ (e ≠ .normal ∧ (e, qs) = fin x))) :
    ∀ x, inv x → ∃ n, SimL P n0 rd c n (T.at (enc x)) (fin x).1 ((T' (fin x).1).at (fin x).2) := by
  have key : ∀ m x, μ x = m → inv x → ∃ n, SimL P n0 rd c n (T.at (enc x)) (fin x).1 ((T' (fin x).1).at (fin x).2) := by
    intro m
    induction m using Nat.strongRecOn with
    | _ m ih =>
      intro x hm' hx
      obtain ⟨e, qs, l, h1, h2, h3⟩ := round x hx
      obtain ⟨q1, q2⟩ := roundX_sim hC hm (hl x hx) hk hk' h1 h2
      rcases h3 with ⟨rfl, y, rfl, hy, hlt, hf⟩ | ⟨hne, hf⟩
      · obtain ⟨n, hn⟩ := ih (μ y) (hm' ▸ hlt) y rfl hy
        rw [hf] at hn
        exact ⟨n + 1, (q1 rfl).step hn⟩
      · rw [← hf]
        exact ⟨1, (q2 hne).leave hne⟩
  exact fun x hx => key _ x rfl hx
noncomputable def smLs0 (x : Nat) : Loops := match x with
  | 0 => noLoops
  | x + 1 => smL0 (16 - (x + 1))
theorem sm0_loop (rd : Option Nat) : ∀ x : Nat, x ≤ 16 → ∃ m, SimL Tryz.prog 0 rd smLp0 m (smT0.at (.i (Int.ofNat (16 - x)) :: smLs)) (.exit 0) (smX0.at []) := by
  refine loop_of_roundsZ (C := orcQm nQm emptyTab) (N := 100) (me := 3) (T := smT0) (T' := fun _ => smX0) mixed (orcQm_ok emptyTab_ok) smT0_ok.1 (fun _ => smT0_ok.2) (X := Nat)
    smLs0 (fun x => .i (Int.ofNat (16 - x)) :: smLs) (fun x => x ≤ 16) (fun x hx => ?_) (fun x => x) (fun _ => (.exit 0, [])) ?_
  · cases x with
    | zero => exact noLoops_ok
    | succ x => exact smL0_ok (by omega)
  · intro m hm
    cases m with
    | zero => exact ⟨_, _, _, sm0_exit nQm rd, codesNil, .inr ⟨by simp, rfl⟩⟩
    | succ m =>
      have h := sm0_round nQm rd (16 - (m + 1)) (by omega)
      unfold smE0 at h
      rw [lpCd10, cond_true, pB_iff.2 rfl, cond_true, lpCd10, cond_true, cond_true, show 16 - (m + 1) + 1 = 16 - m by omega] at h
      exact ⟨_, _, _, h, codesNil, .inl ⟨rfl, m, rfl, by omega, by omega, rfl⟩⟩
end Go.Proofs.YtojlmpcbplepcaaGreat

/- Chapter 10: the law IrregularSmall: all acts of three out of some. -/
namespace Go.Proofs.YtojlmpcbplepcaaGreat
open Go Go.Eng
def smActs : List Int := [0, 0, 2, 3, 4, 0, 10, 4, 1, 15, 4, 0, 6, 1, 0, 6, 1, 1, 12, 2, 1, 0, 2, 1, 1, 4, 1, 3, 3, 1, 4, 0, 0]
def smT3 : Tm := ⟨mkS [(6, .gs 0), (85, .int .i64)] 0 117, [.grow true 32 3 (.ints .u8)], []⟩
def sm3W (ws : List Int) (a b c : Int) : List Int := [ws.getD (a.toNat * 3) 0, ws.getD (a.toNat * 3 + 1) 0, ws.getD (a.toNat * 3 + 1 + 1) 0, ws.getD (b.toNat * 3) 0, ws.getD (b.toNat * 3 + 1) 0, ws.getD (b.toNat * 3 + 1 + 1) 0, ws.getD (c.toNat * 3) 0, ws.getD (c.toNat * 3 + 1) 0, ws.getD (c.toNat * 3 + 1 + 1) 0, 0, 0, 2]
noncomputable def sm3I (ws : List Int) (a : Int) (K : Option (XE × List PV × List (Code × Code))) : Option (XE × List PV × List (Code × Code)) := bif decide (0 ≤ a ∧ a < Int.ofNat (ws.length / 3)) then bif decide (a.toNat * 3 + 3 ≤ ws.length) then K else none else none
noncomputable def smE3 (Q : NQm) (n : Int) (ws : List Int) : Option (XE × List PV × List (Code × Code)) := bif decide (n < 1331) then
  sm3I ws (n.tmod 11) (sm3I ws ((wr .i64 (n.tdiv 11)).tmod 11) (sm3I ws (wr .i64 (n.tdiv 121)) (
    bif Q.P ⟨wr .u8 (n.tmod 4), q0, q0, 0, q0⟩ (sm3W ws (n.tmod 11) ((wr .i64 (n.tdiv 11)).tmod 11) (wr .i64 (n.tdiv 121))) then some (.normal, [.i (wr .i64 (n + 1)), .l ws], []) else none)))
  else some (.exit 6, [], [])
theorem sm3_round (Q : NQm) (rd : Option Nat) (n : Int) (ws : List Int) : roundX Tryz.prog (orcQm Q emptyTab) noLoops 100 0 rd 3 smLp3 smT3 smT3 (fun _ => smX0) [.i n, .l ws] = smE3 Q n ws := by kernel_rfl
theorem smT3_ok : smT3.ok = true := by kernel_rfl
theorem okW_any {ws : List Int} (h : okW ws = true) (p : Nat) : byB (ws.getD p 0) = true := by
  rcases Nat.lt_or_ge p ws.length with h1 | h1
  · exact okW_at h h1
  · rw [List.getD_eq_getElem?_getD, List.getElem?_eq_none h1]; rfl
theorem sm3_ok {ws : List Int} (h : okW ws = true) (d a b c : Int) : plOk ⟨wr .u8 d, q0, q0, 0, q0⟩ (sm3W ws a b c) = true := by
  have hc : crB ⟨wr .u8 d, q0, q0, 0, q0⟩ = true := crB_iff.2 ⟨by_wr d, rfl, fun k => by match k with | 0 => rfl | 1 => rfl | 2 => rfl | n + 3 => rfl, fun k => by match k with | 0 => rfl | 1 => rfl | 2 => rfl | n + 3 => rfl⟩
  have hw : okW (sm3W ws a b c) = true := by
    refine okW_iff.2 ⟨by rw [show (sm3W ws a b c).length = 12 from rfl], ?_⟩
    have q := okW_any h
    simp only [byB, decide_eq_true_eq] at q
    simp only [sm3W, allU, q, and_self, decide_true, Bool.true_and]
    rfl
  unfold plOk
  rw [hc, hw, show (sm3W ws a b c).length = 12 from rfl]; rfl
theorem sm3I_at {a : Int} {K : Option (XE × List PV × List (Code × Code))} (h0 : 0 ≤ a) (h1 : a < 11) : sm3I smActs a K = K := by
  unfold sm3I
  rw [decide_eq_true (show 0 ≤ a ∧ a < Int.ofNat (smActs.length / 3) from ⟨h0, h1⟩), cond_true, decide_eq_true (show a.toNat * 3 + 3 ≤ smActs.length by show a.toNat * 3 + 3 ≤ 33; omega), cond_true]
theorem sm3_loop (rd : Option Nat) : ∀ x : Nat, x ≤ 1331 → ∃ m, SimL Tryz.prog 0 rd smLp3 m (smT3.at [.i ((1331 - x : Nat) : Int), .l smActs]) (.exit 6) (smX0.at []) := by
  refine loop_of_roundsX_n (C := orcQm nQm emptyTab) (L := noLoops) (N := 100) (me := 3) (T := smT3) (T' := fun _ => smX0) (orcQm_ok emptyTab_ok) mixed noLoops_ok smT3_ok (fun _ => smT0_ok.2) (X := Nat)
    (fun x => [.i ((1331 - x : Nat) : Int), .l smActs]) (fun x => x ≤ 1331) (fun x => x) (fun _ => (.exit 6, [])) ?_
  intro m hm
  have h := sm3_round nQm rd ((1331 - m : Nat) : Int) smActs
  unfold smE3 at h
  cases m with
  | zero =>
    rw [decide_eq_false (show ¬ ((1331 - 0 : Nat) : Int) < 1331 by omega), cond_false] at h
    exact ⟨_, _, _, h, codesNil, .inr ⟨by simp, rfl⟩⟩
  | succ m =>
    have e1 : ((1331 - (m + 1) : Nat) : Int).tdiv 11 = (((1331 - (m + 1)) / 11 : Nat) : Int) := Int.ofNat_tdiv (1331 - (m + 1)) 11 |>.symm
    have e2 : ((1331 - (m + 1) : Nat) : Int).tdiv 121 = (((1331 - (m + 1)) / 121 : Nat) : Int) := Int.ofNat_tdiv (1331 - (m + 1)) 121 |>.symm
    have e3 : ((1331 - (m + 1) : Nat) : Int).tmod 11 = (((1331 - (m + 1)) % 11 : Nat) : Int) := Int.ofNat_tmod (1331 - (m + 1)) 11 |>.symm
    have e4 : ((((1331 - (m + 1)) / 11 : Nat) : Int)).tmod 11 = (((1331 - (m + 1)) / 11 % 11 : Nat) : Int) := Int.ofNat_tmod ((1331 - (m + 1)) / 11) 11 |>.symm
    rw [decide_eq_true (show ((1331 - (m + 1) : Nat) : Int) < 1331 by omega), cond_true, e1, e2, wrQ (n := (((1331 - (m + 1)) / 11 : Nat) : Int)) (by omega) (by omega), wrQ (n := (((1331 - (m + 1)) / 121 : Nat) : Int)) (by omega) (by omega), e3, e4,
      sm3I_at (by omega) (by omega), sm3I_at (by omega) (by omega), sm3I_at (by omega) (by omega), show ∀ d a b c, nQm.P ⟨wr .u8 d, q0, q0, 0, q0⟩ (sm3W smActs a b c) = true from sm3_ok (ws := smActs) rfl, cond_true,
      wrQ (n := ((1331 - (m + 1) : Nat) : Int) + 1) (by omega) (by omega), show ((1331 - (m + 1) : Nat) : Int) + 1 = ((1331 - m : Nat) : Int) by omega] at h
    exact ⟨_, _, _, h, codesNil, .inl ⟨rfl, m, rfl, by omega, by omega, rfl⟩⟩
end Go.Proofs.YtojlmpcbplepcaaGreat

/- Chapter 10: the law IrregularSmall: courses with as many calls as there may be. -/
namespace Go.Proofs.YtojlmpcbplepcaaGreat
open Go Go.Eng
noncomputable def lngLp0 : Code := loopOf 2 Tryz.f7
noncomputable def lngLp1 : Code := loopOf 6 Tryz.f7
def lngOwn : List TB := [.grow false 5 1 (.ints .u8), .grow false 3 1 (.ints .i64), .own 27 (.vs (litC (c0, .gs 0, .gs 1)))]
def lngT1 : Tm := ⟨mkS [(1, .int .i64), (2, .ptr 2 0), (3, .int .i64)] 0 50, lngOwn, []⟩
def lngX1 : Tm := ⟨mkS [(1, .int .i64), (2, .ptr 2 0)] 0 50, lngOwn, []⟩
def lngT0 : Tm := ⟨mkS [(1, .int .i64)] 0 50, [], []⟩
def lngX0 : Tm := ⟨mkS [] 0 50, [], []⟩
noncomputable def lngE1 (n i : Int) (xs ac : List Int) : Option (XE × List PV × List (Code × Code)) := bif decide (i < n) then bif decide ((xs ++ [3]).length * 2 ≤ 70368744177664) then bif decide ((ac ++ [i]).length * 9 ≤ 70368744177664) then
  some (.normal, [.i n, .i (wr .i64 (i + 1)), .l (xs ++ [3]), .l (ac ++ [i])], []) else none else none else some (.exit 2, [.i n, .l xs, .l ac], [])
theorem lng1_round (Q : NQm) (rd : Option Nat) (n i : Int) (xs ac : List Int) : roundX Tryz.prog (orcQm Q emptyTab) noLoops 100 0 rd 7 lngLp1 lngT1 lngT1 (fun _ => lngX1) [.i n, .i i, .l xs, .l ac] = lngE1 n i xs ac := by kernel_rfl
theorem lng_tms : lngT1.ok = true ∧ lngX1.ok = true ∧ lngT0.ok = true ∧ lngX0.ok = true := ⟨by kernel_rfl, by kernel_rfl, by kernel_rfl, by kernel_rfl⟩
def lngX : Nat → List Int
  | 0 => []
  | k + 1 => lngX k ++ [3]
def lngA : Nat → List Int
  | 0 => []
  | k + 1 => lngA k ++ [((k + 1 : Nat) : Int)]
theorem lngX_len : ∀ k, (lngX k).length = k
  | 0 => rfl
  | k + 1 => by simp [lngX, lngX_len k]
theorem lngA_len : ∀ k, (lngA k).length = k
  | 0 => rfl
  | k + 1 => by simp [lngA, lngA_len k]
theorem lngX_u : ∀ k, allU (lngX k) = true
  | 0 => rfl
  | k + 1 => allU_snoc (lngX_u k) (by omega)
theorem lng1_loop (rd : Option Nat) (n : Nat) (hn : n ≤ 1000) : ∀ k : Nat, k + 1 ≤ n →
    ∃ m, SimL Tryz.prog 0 rd lngLp1 m (lngT1.at [.i (n : Int), .i ((k + 1 : Nat) : Int), .l (lngX (k + 1)), .l (lngA k)]) (.exit 2) (lngX1.at [.i (n : Int), .l (lngX n), .l (lngA (n - 1))]) := by
  refine loop_of_roundsX_n (C := orcQm nQm emptyTab) (L := noLoops) (N := 100) (me := 7) (T := lngT1) (T' := fun _ => lngX1) (orcQm_ok emptyTab_ok) mixed noLoops_ok lng_tms.1 (fun _ => lng_tms.2.1) (X := Nat)
    (fun k => [.i (n : Int), .i ((k + 1 : Nat) : Int), .l (lngX (k + 1)), .l (lngA k)]) (fun k => k + 1 ≤ n) (fun k => n - k) (fun _ => (.exit 2, [.i (n : Int), .l (lngX n), .l (lngA (n - 1))])) ?_
  intro k hk
  have h := lng1_round nQm rd (n : Int) ((k + 1 : Nat) : Int) (lngX (k + 1)) (lngA k)
  unfold lngE1 at h
  rcases Nat.lt_or_ge (k + 1) n with h1 | h1
  · rw [decide_eq_true (show ((k + 1 : Nat) : Int) < (n : Int) by omega), cond_true, decide_eq_true (show (lngX (k + 1) ++ [(3 : Int)]).length * 2 ≤ 70368744177664 by rw [List.length_append, lngX_len, List.length_singleton]; omega), cond_true,
      decide_eq_true (show (lngA k ++ [((k + 1 : Nat) : Int)]).length * 9 ≤ 70368744177664 by rw [List.length_append, lngA_len, List.length_singleton]; omega), cond_true, wrQ (n := ((k + 1 : Nat) : Int) + 1) (by omega) (by omega), show ((k + 1 : Nat) : Int) + 1 = ((k + 1 + 1 : Nat) : Int) by omega] at h
    exact ⟨_, _, _, h, codesNil, .inl ⟨rfl, k + 1, rfl, h1, by omega, rfl⟩⟩
  · rw [decide_eq_false (show ¬ ((k + 1 : Nat) : Int) < (n : Int) by omega), cond_false] at h
    refine ⟨_, _, _, h, codesNil, .inr ⟨by simp, ?_⟩⟩
    rw [show n = k + 1 by omega]; rfl
structure NLo where
  LX : Int → List Int
  LA : Int → List Int
def nLo : NLo := ⟨fun n => lngX n.toNat, fun n => lngA (n.toNat - 1)⟩
noncomputable def lngTr (Z : NLo) : List PV → Fin
  | [.i n, .i i, .l xs, .l ac] => .br (pB (1 ≤ n ∧ n ≤ 1000 ∧ i = 1 ∧ xs = [3] ∧ ac = [])) (.leaf (.exit 2) (lngX1.at [.i n, .l (Z.LX n), .l (Z.LA n)])) .no
  | _ => .no
noncomputable def lngL (Z : NLo) : Loops := sums (fun n => match n with | 6 => some (lsumD 0 lngT1 lngLp1 (lngTr Z) noSum) | _ => none)
theorem lngL_ok : loopsOk Tryz.prog (lngL nLo) := by
  intro n g hg
  simp only [lngL, sums] at hg
  split at hg
  · cases hg
    refine lsumD_ok lng_tms.1 (fun rd ps e st h => ?_) noSum_ok
    unfold lngTr at h
    split at h
    · rename_i n i xs ac
      obtain ⟨⟨h1, h2, rfl, rfl, rfl⟩, rfl, rfl⟩ := pick1 h
      obtain ⟨k, rfl⟩ : ∃ k : Nat, n = (k : Int) := ⟨n.toNat, by omega⟩
      obtain ⟨m, hm⟩ := lng1_loop rd k (by omega) 0 (by omega)
      exact hm.loop
    · cases h
  · cases hg
noncomputable def lngIn (Q : NQm) (Z : NLo) (n : Int) (K : Option (XE × List PV × List (Code × Code))) : List (Int × Int) → Option (XE × List PV × List (Code × Code))
  | [] => K
  | (k, x) :: r => bif Q.Y.G c0 (Z.LX n) (Z.LA n) && (Q.Y.BY ((wr .u8 (wr .i64 (n + k))).tmod 4) && Q.Y.BY x) then lngIn Q Z n K r else none
noncomputable def lngE0 (Q : NQm) (Z : NLo) (n : Int) : Option (XE × List PV × List (Code × Code)) := bif decide (n ≤ 401) then bif codesB [(lngLp1, lngLp1)] then bif pB (1 ≤ n ∧ n ≤ 1000 ∧ (1 : Int) = 1 ∧ [(3 : Int)] = [3] ∧ ([] : List Int) = []) then
  lngIn Q Z n (some (.normal, [.i (wr .i64 (n + 1))], [])) [(0, 0), (0, 3), (0, 4), (1, 0), (1, 3), (1, 4), (2, 0), (2, 3), (2, 4), (3, 0), (3, 3), (3, 4)] else none else none else some (.exit 0, [], [])
theorem lng0_round (Q : NQm) (Z : NLo) (rd : Option Nat) (n : Int) : roundX Tryz.prog (orcQm Q emptyTab) (lngL Z) 100 0 rd 7 lngLp0 lngT0 lngT0 (fun _ => lngX0) [.i n] = lngE0 Q Z n := by kernel_rfl
end Go.Proofs.YtojlmpcbplepcaaGreat

/- Chapter 10: the law IrregularSmall is true. -/
namespace Go.Proofs.YtojlmpcbplepcaaGreat
open Go Go.Eng
theorem byQ (z : Int) : byB ((wr .u8 z).tmod 4) = true := by
  have h : 0 ≤ wr .u8 z := by show 0 ≤ _ % 256; omega
  rw [Int.tmod_eq_emod_of_nonneg h]
  exact decide_eq_true (by omega)
theorem lngIn_ok {Q : NQm} {Z : NLo} {n : Int} {K : Option (XE × List PV × List (Code × Code))} (hg : Q.Y.G c0 (Z.LX n) (Z.LA n) = true) (hb : Q.Y.BY = byB) : ∀ l : List (Int × Int), (l.all fun p => byB p.2) = true → lngIn Q Z n K l = K
  | [], _ => rfl
  | (k, x) :: r, h => by
    simp only [List.all_cons, Bool.and_eq_true] at h
    unfold lngIn
    rw [hg, hb, byQ, h.1, Bool.and_self, Bool.and_self, cond_true, lngIn_ok hg hb r h.2]
theorem lng0_loop (rd : Option Nat) : ∀ x : Nat, x ≤ 7 → ∃ m, SimL Tryz.prog 0 rd lngLp0 m (lngT0.at [.i ((402 - x : Nat) : Int)]) (.exit 0) (lngX0.at []) := by
  refine loop_of_roundsX_n (C := orcQm nQm emptyTab) (L := lngL nLo) (N := 100) (me := 7) (T := lngT0) (T' := fun _ => lngX0) (orcQm_ok emptyTab_ok) mixed lngL_ok lng_tms.2.2.1 (fun _ => lng_tms.2.2.2) (X := Nat)
    (fun x => [.i ((402 - x : Nat) : Int)]) (fun x => x ≤ 7) (fun x => x) (fun _ => (.exit 0, [])) ?_
  intro m hm
  have h := lng0_round nQm nLo rd ((402 - m : Nat) : Int)
  unfold lngE0 at h
  cases m with
  | zero =>
    rw [decide_eq_false (show ¬ ((402 - 0 : Nat) : Int) ≤ 401 by omega), cond_false] at h
    exact ⟨_, _, _, h, codesNil, .inr ⟨by simp, rfl⟩⟩
  | succ m =>
    have hg : nQm.Y.G c0 (nLo.LX ((402 - (m + 1) : Nat) : Int)) (nLo.LA ((402 - (m + 1) : Nat) : Int)) = true :=
      show gTl c0 (lngX (402 - (m + 1))) (lngA (402 - (m + 1) - 1)) = true from gTl_iff.2 ⟨rfl, lngX_u _, by rw [lngX_len]; omega, by rw [lngA_len]; omega⟩
    rw [decide_eq_true (show ((402 - (m + 1) : Nat) : Int) ≤ 401 by omega), cond_true, lpCd10, cond_true, pB_iff.2 (show 1 ≤ ((402 - (m + 1) : Nat) : Int) ∧ ((402 - (m + 1) : Nat) : Int) ≤ 1000 ∧ (1 : Int) = 1 ∧ [(3 : Int)] = [3] ∧ ([] : List Int) = [] from ⟨by omega, by omega, rfl, rfl, rfl⟩), cond_true,
      lngIn_ok hg rfl _ rfl, wrQ (n := ((402 - (m + 1) : Nat) : Int) + 1) (by omega) (by omega), show ((402 - (m + 1) : Nat) : Int) + 1 = ((402 - m : Nat) : Int) by omega] at h
    exact ⟨_, _, _, h, codesNil, .inl ⟨rfl, m, rfl, by omega, by omega, rfl⟩⟩
noncomputable def lngTr0 : List PV → Fin
  | [.i n] => .br (pB (n = 395)) (.leaf (.exit 0) (lngX0.at [])) .no
  | _ => .no
noncomputable def lngLL : Loops := sums (fun n => match n with | 2 => some (lsumD 0 lngT0 lngLp0 lngTr0 noSum) | _ => none)
theorem lngLL_ok : loopsOk Tryz.prog lngLL := by
  intro n g hg
  simp only [lngLL, sums] at hg
  split at hg
  · cases hg
    refine lsumD_ok lng_tms.2.2.1 (fun rd ps e st h => ?_) noSum_ok
    unfold lngTr0 at h
    split at h
    · obtain ⟨rfl, rfl, rfl⟩ := pick1 h
      obtain ⟨m, hm⟩ := lng0_loop rd 7 (Nat.le_refl _)
      exact hm.loop
    · cases h
  · cases hg
theorem long_eval (Q : NQm) : evalFn Tryz.prog (orcQm Q emptyTab) lngLL 100 7 Tryz.f7 [] [] (fun v _ => some v) = bif codesB [(lngLp0, lngLp0)] then bif pB ((395 : Int) = 395) then some (.bool true) else none else none := by kernel_rfl
theorem long_p : FnPure Tryz.prog 7 [] (.bool true) := fnPure_of_eval (orcQm_ok emptyTab_ok) mixed Tryz.func7 (by kernel_rfl) lngLL_ok (by rw [long_eval nQm, lpCd10, pB_iff.2 rfl]; rfl) rfl rfl
def gTrue : List V → Option (Bool × V)
  | [] => some (true, .bool true)
  | _ => none
def tabSm : PTab := addTab 7 gTrue (addTab 8 gTrue emptyTab)
theorem tabSm_ok : PTabOk Tryz.prog tabSm := by
  refine addTab_ok (fun args c v h hc => ?_) (addTab_ok (fun args c v h hc => ?_) emptyTab_ok)
  · unfold gTrue at h
    split at h
    · cases h; exact long_p
    · cases h
  · unfold gTrue at h
    split at h
    · cases h; exact awake_p
    · cases h
noncomputable def smTr0 (ps : List PV) : Fin := .br (pB (ps = .i 0 :: smLs)) (.leaf (.exit 0) (smX0.at [])) .no
noncomputable def smTr3 (ps : List PV) : Fin := .br (pB (ps = [.i 0, .l smActs])) (.leaf (.exit 6) (smX0.at [])) .no
noncomputable def smLL : Loops := sums (fun n => match n with
  | 3 => some (lsumD 0 smT0 smLp0 smTr0 noSum)
  | 20 => some (lsumD 0 smT3 smLp3 smTr3 noSum)
  | _ => none)
theorem smLL_ok : loopsOk Tryz.prog smLL := by
  intro n g hg
  simp only [smLL, sums] at hg
  split at hg
  · cases hg
    refine lsumD_ok smT0_ok.1 (fun rd ps e st h => ?_) noSum_ok
    obtain ⟨rfl, rfl, rfl⟩ := pick1 h
    obtain ⟨m, hm⟩ := sm0_loop rd 16 (Nat.le_refl _)
    exact hm.loop
  · cases hg
    refine lsumD_ok smT3_ok (fun rd ps e st h => ?_) noSum_ok
    obtain ⟨rfl, rfl, rfl⟩ := pick1 h
    obtain ⟨m, hm⟩ := sm3_loop rd 1331 (Nat.le_refl _)
    exact hm.loop
  · cases hg
theorem small_eval (Q : NQm) : evalFn Tryz.prog (orcQm Q tabSm) smLL 100 3 Tryz.f3 [] [] (fun v _ => some v) =
    bif codesB [(smLp0, smLp0)] then bif pB ((.i 0 : PV) :: smLs = .i 0 :: smLs) then bif codesB [(smLp3, smLp3)] then bif pB ([(.i 0 : PV), .l smActs] = [.i 0, .l smActs]) then some (.bool true) else none else none else none else none := by kernel_rfl
theorem small_true : evalFn Tryz.prog (orcQm nQm tabSm) smLL 100 3 Tryz.f3 [] [] (fun v _ => some v) = some (.bool true) := by
  rw [small_eval, lpCd10, lpCd10, pB_iff.2 rfl, pB_iff.2 rfl]; rfl
end Go.Proofs.YtojlmpcbplepcaaGreat
