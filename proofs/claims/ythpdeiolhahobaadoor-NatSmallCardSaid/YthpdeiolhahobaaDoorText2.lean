/- Chapter 2: Text, for every number. -/
import Derived.Test.YthpdeiolhahobaaDoorRRead3
namespace Go.Proofs.YthpdeiolhahobaaDoor
open Go Go.Eng
/-- The digits of a number as bytes, the highest one first. -/
def tx (m : Nat) : List Int := if m = 0 then [48] else ((D m).map (48 + ·)).reverse
theorem tx_one {m : Nat} (h : m / 10 = 0) : tx m = [48 + ((m % 10 : Nat) : Int)] := by
  unfold tx
  by_cases h0 : m = 0
  · subst h0; rfl
  · rw [if_neg h0, D_pos (by omega), h, D_zero]; simp
theorem tx_more {m : Nat} (h : m / 10 ≠ 0) : tx m = tx (m / 10) ++ [48 + ((m % 10 : Nat) : Int)] := by
  unfold tx
  rw [if_neg (by omega), if_neg h, D_pos (n := m) (by omega)]; simp
theorem tx_pos (m : Nat) : 0 < (tx m).length := by
  by_cases h : m / 10 = 0
  · rw [tx_one h]; simp
  · rw [tx_more h]; simp
theorem tx_len {m : Nat} (h : m < 340282366920938463463374607431768211456) : (tx m).length ≤ 39 := by
  unfold tx
  split
  · simp
  · rw [List.length_reverse, List.length_map]
    exact D_len_lt (Nat.lt_trans h (by decide))
def T0 : NT := ⟨nval, w0, w1, w2, w3, inN, (· / 10), (· % 10)⟩
theorem tabTx_ok : PTabOk Tryd.prog (tabTx T0) := by
  refine addTab_ok ?_ emptyTab_ok
  intro args c v h hc
  unfold gTenthV at h
  split at h
  · cases h; exact tenth_p hc
  · cases h
theorem orcT_ok : OracleOk Tryd.prog (orcT T0) := orcP_ok tabTx_ok plainL_ok
theorem isZ_T0 {m : Nat} (h : m < 340282366920938463463374607431768211456) : T0.isZ (m : Int) = decide (m = 0) := by
  unfold NT.isZ
  rw [show T0.w0 = w0 from rfl, show T0.w1 = w1 from rfl, show T0.w2 = w2 from rfl, show T0.w3 = w3 from rfl, Bool.eq_iff_iff]
  simp only [Bool.and_eq_true, decide_eq_true_eq, and_true]
  unfold w0 w1 w2 w3
  omega
def txZ (W : List Int) : List Int := List.replicate (39 - W.length) 0 ++ W
theorem txZ_len {W : List Int} (h : W.length ≤ 39) : (txZ W).length = 39 := by unfold txZ; rw [List.length_append, List.length_replicate]; omega
theorem txZ_set {W : List Int} (h : W.length < 39) (v : Int) : (txZ W).set (38 - W.length) v = txZ (v :: W) := by
  unfold txZ
  rw [List.length_cons, show 39 - W.length = (38 - W.length) + 1 by omega, List.replicate_succ', List.append_assoc]
  rw [show (List.replicate (38 - W.length) (0 : Int)) ++ ([0] ++ W) = List.replicate (38 - W.length) 0 ++ (0 :: W) from rfl]
  have e : 39 - (W.length + 1) = (List.replicate (38 - W.length) (0 : Int)).length := by rw [List.length_replicate]; omega
  rw [List.set_append_right _ _ (by rw [List.length_replicate]; exact Nat.le_refl _), List.length_replicate, Nat.sub_self, show 39 - (W.length + 1) = 38 - W.length by omega]
  rfl
theorem tx_out {W : List Int} (h : W.length < 39) (t v : Int) (ht : wr .i64 (t - 1) = ((38 - W.length : Nat) : Int)) : txOut t (txZ (v :: W)) = some (.ret, [.s (bytesOf (v :: W))], []) := by
  have hp : txP t = 38 - W.length := by unfold txP; rw [ht]; rfl
  have hl := txZ_len (W := v :: W) (by rw [List.length_cons]; omega)
  unfold txOut
  rw [hp, ht, hl, mulS_eq, mulS_eq, addS_eq, decide_eq_true (show 0 ≤ ((38 - W.length : Nat) : Int) ∧ ((38 - W.length : Nat) : Int) ≤ 39 ∧ (39 : Int) ≤ 39 by omega)]
  have hb : Nat.beq 39 (38 - W.length) = false := by
    cases hh : Nat.beq 39 (38 - W.length) with
    | false => rfl
    | true => have := Nat.eq_of_beq_eq_true hh; omega
  rw [hb, cond_true, cond_false, cond_false, decide_eq_true (show 38 - W.length + (39 - (38 - W.length)) ≤ 39 by omega), cond_true]
  have hd : List.drop (0 + (38 - W.length) * 1) (txZ (v :: W)) = v :: W := by
    unfold txZ
    rw [List.length_cons, Nat.zero_add, Nat.mul_one]
    exact List.drop_left' (by rw [List.length_replicate]; omega)
  rw [hd, List.take_of_length_le (by rw [List.length_cons]; omega)]
theorem tx_loop (rd : Option Nat) : ∀ x : Nat × List Int, (x.1 < 340282366920938463463374607431768211456 ∧ x.2.length + (tx x.1).length ≤ 39) →
    SimC Tryd.prog 0 rd (.loop txLp) (txT.at [.i ((39 - x.2.length : Nat) : Int), .i (w0 x.1), .i (w1 x.1), .i (w2 x.1), .i (w3 x.1), .l (txZ x.2)]) .ret (txX.at [.s (bytesOf (tx x.1 ++ x.2))]) := by
  refine loop_of_rounds (C := orcT T0) (L := noLoops) (N := 200) (me := 17) (T := txT) (T' := txX) orcT_ok mixed noLoops_ok (by kernel_rfl) (by kernel_rfl) (X := Nat × List Int)
    (fun x => [.i ((39 - x.2.length : Nat) : Int), .i (w0 x.1), .i (w1 x.1), .i (w2 x.1), .i (w3 x.1), .l (txZ x.2)])
    (fun x => x.1 < 340282366920938463463374607431768211456 ∧ x.2.length + (tx x.1).length ≤ 39) (fun x => x.1) (fun x => (.ret, [.s (bytesOf (tx x.1 ++ x.2))])) ?_
  rintro ⟨m, W⟩ ⟨hm, hW⟩
  dsimp only at hm hW ⊢
  have hp := tx_pos m
  have h := tx_round T0 rd (txZ W) ((39 - W.length : Nat) : Int) (w0 m) (w1 m) (w2 m) (w3 m)
  have hw : wr .i64 (((39 - W.length : Nat) : Int) - 1) = ((38 - W.length : Nat) : Int) := by rw [wr64 (by omega) (by omega)]; omega
  have hP : txP ((39 - W.length : Nat) : Int) = 38 - W.length := by unfold txP; rw [hw]; rfl
  have hS : txS (txZ W) ((39 - W.length : Nat) : Int) ((m % 10 : Nat) : Int) = txZ ((48 + ((m % 10 : Nat) : Int)) :: W) := by
    unfold txS
    have hv : wr .u8 (wr .u32 (48 + ((m % 10 : Nat) : Int))) = 48 + ((m % 10 : Nat) : Int) := by simp only [wr]; omega
    rw [hP, txZ_set (by omega), hv]
  have e1 : T0.te ((m : Nat) : Int) = ((m / 10 : Nat) : Int) := rfl
  have e2 : T0.teR ((m : Nat) : Int) = ((m % 10 : Nat) : Int) := rfl
  rw [show T0.inn = inN from rfl, inN_w, show T0.z = nval from rfl, nval_id ⟨by omega, by omega⟩, e1, e2, isZ_T0 (by omega), hS, hw, hP, txZ_len (by omega), decide_eq_true (show 0 ≤ ((38 - W.length : Nat) : Int) ∧ ((38 - W.length : Nat) : Int) < 39 by omega),
    decide_eq_true (show 38 - W.length < 39 by omega), cond_true, cond_true, cond_true] at h
  by_cases h0 : m / 10 = 0
  · rw [decide_eq_true h0, cond_true, tx_out (by omega) _ _ hw] at h
    rw [tx_one h0]
    exact ⟨_, _, _, h, codes0, .inr ⟨by simp, rfl⟩⟩
  · have hmore := tx_more h0
    have hl := congrArg List.length hmore
    rw [List.length_append, List.length_singleton] at hl
    have hp2 := tx_pos (m / 10)
    rw [decide_eq_false h0, cond_false, decide_eq_false (show ¬ ((38 - W.length : Nat) : Int) = 0 by omega), cond_false, show T0.w0 = w0 from rfl, show T0.w1 = w1 from rfl, show T0.w2 = w2 from rfl, show T0.w3 = w3 from rfl] at h
    rw [hmore, List.append_assoc]
    refine ⟨_, _, _, h, codes0, .inl ⟨rfl, (m / 10, (48 + ((m % 10 : Nat) : Int)) :: W), ?_, ⟨by dsimp only; omega, by dsimp only; rw [List.length_cons]; omega⟩, by dsimp only; omega, rfl⟩⟩
    dsimp only
    rw [List.length_cons, show 39 - (W.length + 1) = 38 - W.length by omega]
noncomputable def txTree : List PV → Fin
  | [.i t, .i a, .i b, .i c, .i d, .l xs] => .br (pB (t = 39 ∧ inN a b c d = true ∧ xs = List.replicate 39 0)) (.leaf .ret (txX.at [.s (bytesOf (tx (nval a b c d).toNat))])) .no
  | _ => .no
noncomputable def txL : Loops := sums (fun n => match n with | 3 => some (lsumF 0 txT txLp txTree) | _ => none)
theorem txL_ok : loopsOk Tryd.prog txL := by
  intro n g hg
  simp only [txL, sums] at hg
  split at hg
  · cases hg
    refine lsumF_ok (by kernel_rfl) (fun rd ps e1 st1 hq => ?_)
    unfold txTree at hq
    split at hq
    · rename_i t a b c d xs
      simp only [Fin.pick] at hq
      cases hc : pB (t = 39 ∧ inN a b c d = true ∧ xs = List.replicate 39 0) with
      | false => rw [hc] at hq; cases hq
      | true =>
        rw [hc, cond_true] at hq
        rw [pB_iff] at hc
        obtain ⟨rfl, hin, rfl⟩ := hc
        cases hq
        have hr := nval_range hin
        obtain ⟨z0, z1, z2, z3⟩ := w_nval hin
        have hl := tx_loop rd ((nval a b c d).toNat, []) ⟨by dsimp only; omega, by have := tx_len (m := (nval a b c d).toNat) (by omega); dsimp only [List.length_nil]; omega⟩
        dsimp only at hl
        rw [show (((nval a b c d).toNat : Nat) : Int) = nval a b c d by omega, z0, z1, z2, z3, List.append_nil] at hl
        exact hl
    · cases hq
  · cases hg
theorem text_eval (a b c d : Int) : evalFn Tryd.prog (orcT T0) txL 200 17 Tryd.f17 [.agg [.int .u32 a, .int .u32 b, .int .u32 c, .int .u32 d]] [] (fun v _ => some v) =
    cond (codesB [(txLp, txLp)]) (bif pB ((39 : Int) = 39 ∧ inN a b c d = true ∧ List.replicate 39 (0 : Int) = List.replicate 39 0) then some (.str (bytesOf (tx (nval a b c d).toNat))) else none) none := by kernel_rfl
theorem text_p {a b c d : Int} (h : inN a b c d = true) : FnPure Tryd.prog 17 [.agg [.int .u32 a, .int .u32 b, .int .u32 c, .int .u32 d]] (.str (bytesOf (tx (nval a b c d).toNat))) := by
  refine fnPure_of_eval (N := 200) orcT_ok mixed Tryd.func17 (by kernel_rfl) txL_ok ?_ rfl rfl
  have hcd : codesB [(txLp, txLp)] = true := by rw [codesB_iff]; intro x hx; simp at hx; rw [hx]
  rw [text_eval, hcd, pB_iff.2 ⟨rfl, h, rfl⟩]; rfl
end Go.Proofs.YthpdeiolhahobaaDoor
