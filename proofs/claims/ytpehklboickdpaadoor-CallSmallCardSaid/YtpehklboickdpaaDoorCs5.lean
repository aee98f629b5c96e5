/- Chapter 8: the law CallSmall: its loops run. -/
import Derived.Test.YtpehklboickdpaaDoorCs4
import Derived.Shelf.Strings.Repeat
namespace Go.Proofs.YtpehklboickdpaaDoor
open Go Go.Eng
theorem wr_u8_id {n : Int} (h : 0 ≤ n ∧ n < 256) : wr .u8 n = n := by rw [← wr_eq]; simp only [IntKind.wrap, IntKind.bits, IntKind.signed]; simp; omega
def repL (s : ByteArray) (n : Int) : ByteArray := ⟨(Lib.repeatL s.data.toList n.toNat).toArray⟩
def repC (s : ByteArray) (n : Int) : Bool := decide (2 ≤ n ∧ n ≤ 1000 ∧ 0 < lenS s ∧ lenS s ≤ 1000)
def cS : CS := ⟨tlC, txsC, repC, repL⟩
theorem lenB (l : List Int) : lenS (bytesOf l) = l.length := by unfold lenS bytesOf; simp
theorem txsC_ok {xs : List Int} {s : ByteArray} (h1 : allU xs = true) (h2 : xs.length ≤ 1000) (h3 : lenS s ≤ 100000) : txsC xs s = true := by
  unfold txsC
  rw [h1, decide_eq_true ⟨by omega, h3⟩]; rfl
theorem hTab8_ok : HTabOk Tryd.prog (hTab8 cS) := by
  refine addH_ok ?_ (addH_ok ?_ (addH_ok ?_ emptyH_ok))
  · intro args h c v nb hq hc
    unfold gTl16 at hq
    split at hq
    · cases hq
      simp only [Bool.and_eq_true, pB_iff] at hc
      obtain ⟨rfl, h1⟩ := hc
      have h1 : tlC _ _ = true := h1
      simp only [tlC, decide_eq_true_eq] at h1
      exact ⟨.of Tryd.func16 (by kernel_rfl), by rw [List.append_nil]; exact tells_fn h1.1 h1.2⟩
    · cases hq
  · intro args h c v nb hq hc
    unfold gTxs at hq
    split at hq
    · cases hq
      simp only [Bool.and_eq_true, pB_iff] at hc
      obtain ⟨rfl, h1⟩ := hc
      exact ⟨.of Tryd.func10 (by kernel_rfl), by rw [List.append_nil]; exact texts_fn _ h1⟩
    · cases hq
  · intro args h c v nb hq hc
    unfold gAwake at hq
    split at hq
    · cases hq
      rw [pB_iff] at hc
      subst hc
      exact ⟨.of Tryd.func11 (by kernel_rfl), awake_fn⟩
    · cases hq
theorem orc8_ok (hR : PTabOk Tryd.prog (tabRp cS)) {LL : FuncId → Loops} (hL : ∀ f, loopsOk Tryd.prog (LL f)) : OracleOk Tryd.prog (orc8 cS LL) := inl_ok (hOrcN_ok hTab8_ok) ftab_ok hR hL mixed 20
theorem allU_one {c : Int} (h : 0 ≤ c ∧ c < 256) : allU [c] = true := by simp only [allU, Bool.and_true, decide_eq_true_eq]; exact h
theorem allU_three {c : Int} (h : 0 ≤ c ∧ c < 256) : allU [3, c, 0] = true := by simp only [allU, Bool.and_true, Bool.and_eq_true, decide_eq_true_eq]; exact ⟨by omega, h, by omega⟩
theorem k2Z_is {c d : Int} (hc : 0 ≤ c ∧ c < 256) (hd : 0 ≤ d ∧ d < 256) : k2Z cS c d textsL = some (.normal, [.i c, .i (d + 1), .ss textsL], []) := by
  unfold k2Z
  rw [wr_u8_id hc, wr_u8_id hd, pB_iff.2 rfl, show cS.TC [c] (bytesOf [c, d]) = true from txsC_ok (allU_one hc) (by simp) (by rw [lenB]; simp), wr64 (x := d + 1) (by omega) (by omega)]
  rfl
theorem k2_loop (hR : PTabOk Tryd.prog (tabRp cS)) (rd : Option Nat) {c : Int} (hc : 0 ≤ c ∧ c < 256) : ∀ d : Nat, d ≤ 256 → SimC Tryd.prog 1 rd (.loop k2Lp) (k2T.at [.i c, .i (d : Int), .ss textsL]) (.exit 2) (k1T.at [.i c, .ss textsL]) := by
  refine loop_of_rounds (C := orc8 cS plainL) (L := noLoops) (N := 100) (me := 8) (T := k2T) (T' := k1T) (orc8_ok hR plainL_ok) mixed noLoops_ok (by kernel_rfl) (by kernel_rfl) (X := Nat)
    (fun d => [.i c, .i (d : Int), .ss textsL]) (fun d => d ≤ 256) (fun d => 256 - d) (fun _ => (.exit 2, [.i c, .ss textsL])) ?_
  intro d hd
  have h := k2_round cS rd c (d : Int) textsL
  rcases Nat.lt_or_ge d 256 with hlt | hge
  · have ht : cS.TL (wr .u8 c) (wr .u8 (d : Int)) = true := by
      rw [wr_u8_id hc, wr_u8_id (n := (d : Int)) (by omega)]
      exact decide_eq_true ⟨hc, by omega⟩
    rw [decide_eq_true (show (d : Int) < 256 by omega), cond_true, ht, pB_iff.2 rfl, k2Z_is hc (d := (d : Int)) (by omega)] at h
    have h' : roundT Tryd.prog (orc8 cS plainL) noLoops 100 1 rd 8 k2Lp k2T k1T [.i c, .i (d : Int), .ss textsL] = some (.normal, [.i c, .i ((d : Int) + 1), .ss textsL], []) := by
      rw [h]
      cases decide (c < 45) <;> cases decide ((d : Int) < 45) <;> rfl
    rw [show (d : Int) + 1 = ((d + 1 : Nat) : Int) by omega] at h'
    exact ⟨_, _, _, h', codes0, .inl ⟨rfl, d + 1, rfl, by omega, by omega, rfl⟩⟩
  · rw [decide_eq_false (show ¬ (d : Int) < 256 by omega), cond_false] at h
    exact ⟨_, _, _, h, codes0, .inr ⟨by simp, rfl⟩⟩
noncomputable def d2C : D2T := fun c d tl => decide ((0 ≤ c ∧ c < 256) ∧ d = 0) && pB (tl = textsL)
theorem k2L_ok (hR : PTabOk Tryd.prog (tabRp cS)) : loopsOk Tryd.prog (k2L d2C) := by
  intro n g hg
  simp only [k2L, sums] at hg
  split at hg
  · cases hg
    refine lsumF_ok (by kernel_rfl) (fun rd ps e1 st1 hq => ?_)
    unfold k2Tree at hq
    split at hq
    · rename_i c d tl
      simp only [Fin.pick] at hq
      cases hc : d2C c d tl with
      | false => rw [hc] at hq; cases hq
      | true =>
        rw [hc, cond_true] at hq
        simp only [d2C, Bool.and_eq_true, decide_eq_true_eq, pB_iff] at hc
        obtain ⟨⟨h1, rfl⟩, rfl⟩ := hc
        cases hq
        exact k2_loop hR rd h1 0 (Nat.zero_le _)
    · cases hq
  · cases hg
theorem k1S_is {c : Int} (hc : 0 ≤ c ∧ c < 256) : ∀ l : List ByteArray, (∀ s ∈ l, lenS s ≤ 100) → k1S cS c textsL l = some (.normal, [.i (c + 1), .ss textsL], [])
  | [], _ => by unfold k1S; rw [wr64 (x := c + 1) (by omega) (by omega)]
  | s :: r, h => by
    unfold k1S
    rw [wr_u8_id hc, pB_iff.2 rfl, show cS.TC [3, c, 0] s = true from txsC_ok (allU_three hc) (by simp) (by have := h s (by simp); omega)]
    exact k1S_is hc r fun x hx => h x (by simp [hx])
theorem sK_len (c : Int) : ∀ s ∈ sK c, lenS s ≤ 100 := by
  have h1 : lenS (chS c) = 1 := by unfold chS; rw [lenB]; rfl
  intro s hs
  simp only [sK, List.mem_cons, List.not_mem_nil, or_false] at hs
  rcases hs with rfl | rfl | rfl | rfl | rfl | rfl | rfl <;> simp only [ap_len, h1] <;> decide
theorem k1_loop (hR : PTabOk Tryd.prog (tabRp cS)) (rd : Option Nat) : ∀ c : Nat, c ≤ 256 → SimC Tryd.prog 1 rd (.loop k1Lp) (k1T.at [.i (c : Int), .ss textsL]) (.exit 0) (k1X.at [.ss textsL]) := by
  refine loop_of_rounds (C := orc8 cS plainL) (L := k2L d2C) (N := 100) (me := 8) (T := k1T) (T' := k1X) (orc8_ok hR plainL_ok) mixed (k2L_ok hR) (by kernel_rfl) (by kernel_rfl) (X := Nat)
    (fun c => [.i (c : Int), .ss textsL]) (fun c => c ≤ 256) (fun c => 256 - c) (fun _ => (.exit 0, [.ss textsL])) ?_
  intro c hc
  have h := k1_round cS d2C rd (c : Int) textsL
  rcases Nat.lt_or_ge c 256 with hlt | hge
  · have hD : d2C (c : Int) 0 textsL = true := by unfold d2C; rw [decide_eq_true (by omega), pB_iff.2 rfl]; rfl
    rw [decide_eq_true (show (c : Int) < 256 by omega), cond_true, lpCd, hD, k1S_is (c := (c : Int)) (by omega) _ (sK_len _)] at h
    rw [show (c : Int) + 1 = ((c + 1 : Nat) : Int) by omega] at h
    exact ⟨_, _, _, h, codes0, .inl ⟨rfl, c + 1, rfl, by omega, by omega, rfl⟩⟩
  · rw [decide_eq_false (show ¬ (c : Int) < 256 by omega), cond_false] at h
    exact ⟨_, _, _, h, codes0, .inr ⟨by simp, rfl⟩⟩
noncomputable def d1C (c : Int) (tl : List ByteArray) : Bool := decide (c = 0) && pB (tl = textsL)
theorem k1L_ok (hR : PTabOk Tryd.prog (tabRp cS)) : loopsOk Tryd.prog (k1L d1C) := by
  intro n g hg
  simp only [k1L, sums] at hg
  split at hg
  · cases hg
    refine lsumF_ok (by kernel_rfl) (fun rd ps e1 st1 hq => ?_)
    unfold k1Tree at hq
    split at hq
    · rename_i c tl
      simp only [Fin.pick] at hq
      cases hc : d1C c tl with
      | false => rw [hc] at hq; cases hq
      | true =>
        rw [hc, cond_true] at hq
        simp only [d1C, Bool.and_eq_true, decide_eq_true_eq, pB_iff] at hc
        obtain ⟨rfl, rfl⟩ := hc
        cases hq
        exact k1_loop hR rd 0 (Nat.zero_le _)
    · cases hq
  · cases hg
theorem rep_len (s : ByteArray) (n : Int) : lenS (repL s n) = lenS s * n.toNat := by
  unfold lenS repL
  rw [show (⟨(Lib.repeatL s.data.toList n.toNat).toArray⟩ : ByteArray).data.toList = Lib.repeatL s.data.toList n.toNat from rfl, Lib.repeatL_length, Nat.mul_comm]
theorem zer_U : ∀ n : Nat, allU (zerL n) = true
  | 0 => rfl
  | n + 1 => by unfold zerL; rw [List.replicate_succ]; simp only [allU, Bool.and_eq_true, decide_eq_true_eq]; exact ⟨by omega, zer_U n⟩
theorem zer_U38 : ∀ n : Nat, allU (zerL n ++ [38]) = true
  | 0 => rfl
  | n + 1 => by unfold zerL; rw [List.replicate_succ, List.cons_append]; simp only [allU, Bool.and_eq_true, decide_eq_true_eq]; exact ⟨by omega, zer_U38 n⟩
theorem kN_true : ∀ m n : Nat, 3 ≤ n → n + m ≤ 500 → kN cS m n = some (.bool true)
  | 0, n, _, _ => by
    unfold kN
    rw [pB_iff.2 rfl, show cS.TC [] ⟨#[]⟩ = true from rfl]; rfl
  | m + 1, n, h1, h2 => by
    have l7 : lenS s7N = 4 := rfl
    have lP : lenS sP = 2 := rfl
    have r1 : cS.RC s7N ((n : Int) - 1) = true := decide_eq_true (by rw [l7]; omega)
    have r2 : cS.RC sP (n : Int) = true := decide_eq_true (by rw [lP]; omega)
    have e1 : lenS (cS.RV s7N ((n : Int) - 1)) = 4 * ((n : Int) - 1).toNat := by have := rep_len s7N ((n : Int) - 1); rw [l7] at this; exact this
    have e2 : lenS (cS.RV sP (n : Int)) = 2 * ((n : Int)).toNat := by have := rep_len sP (n : Int); rw [lP] at this; exact this
    have lz : (zerL n).length = n := by unfold zerL; simp
    have t1 : cS.TC (zerL n) (apS (cS.RV s7N ((n : Int) - 1)) ⟨#[55, 78, 84]⟩) = true := txsC_ok (zer_U n) (by omega) (by rw [ap_len, e1]; show _ + 3 ≤ _; omega)
    have t2 : cS.TC (zerL n ++ [38]) (cS.RV sP (n : Int)) = true := txsC_ok (zer_U38 n) (by rw [List.length_append, List.length_singleton]; omega) (by rw [e2]; omega)
    unfold kN
    rw [r1, r2, pB_iff.2 rfl, t1, t2, decide_eq_true (show lenS (cS.RV s7N ((n : Int) - 1)) + 3 ≤ 9223372036854775807 by rw [e1]; omega)]
    exact kN_true m (n + 1) (by omega) (by omega)
theorem small_true : evalFn Tryd.prog (orc8 cS plainL) (k1L d1C) 100 8 Tryd.f8 [] gH (fun v _ => some v) = some (.bool true) := by
  rw [small_eval, lpCd, show d1C 0 textsL = true by unfold d1C; rw [pB_iff.2 rfl]; rfl, kN_true 6 317 (by omega) (by omega)]; rfl
end Go.Proofs.YtpehklboickdpaaDoor
