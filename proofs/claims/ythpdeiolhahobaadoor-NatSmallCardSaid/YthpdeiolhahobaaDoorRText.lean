/- Chapter 2, the reference: Text: the same as nat's own. -/
import Derived.Test.YthpdeiolhahobaaDoorRAdd
import Derived.Test.YthpdeiolhahobaaDoorText2
namespace Go.Proofs.YthpdeiolhahobaaDoor
open Go Go.Eng
noncomputable def rxLp : Code := loopOf 6 Tryd.f46
def rxT : Tm := ⟨mkS [(3, .gs 0), (4, .str), (5, .int .i64)] 0 27, [.grow false 3 1 i64s], []⟩
def rxX : Tm := ⟨mkS [(4, .str)] 0 27, [], []⟩
def rxC (v : Int) (s : ByteArray) : ByteArray := catS (strI (wr .i32 (wr .i64 (48 + v)))) s
theorem rx_round (N : NE) (Z E : Int → Int) (ok : List Int → Bool) (vl : List Int → Int) (rd : Option Nat) (ds : List Int) (s : ByteArray) (i : Int) : roundT Tryd.prog (orcQ (hTabZ N Z E ok vl)) noLoops 200 0 rd 46 rxLp rxT rxX [.s s, .i i, .l ds] =
    bif decide (i < nI ds) then atI ds i (fun v => bif decide (lenS (strI (wr .i32 (wr .i64 (48 + v)))) + lenS s ≤ 9223372036854775807) then some (.normal, [.s (rxC v s), .i (wr .i64 (i + 1)), .l ds], []) else none) else some (.exit 0, [.s s], []) := by kernel_rfl
def rxF (ds : List Int) (s : ByteArray) : ByteArray := ds.foldl (fun s v => rxC v s) s
theorem strI_digit {v : Int} (h : 0 ≤ v ∧ v < 10) : strI (48 + v) = bytesOf [48 + v] := by
  obtain ⟨k, rfl⟩ : ∃ k : Nat, v = (k : Int) := ⟨v.toNat, by omega⟩
  have hk : k < 10 := by omega
  clear h
  match k, hk with
  | 0, _ => rfl
  | 1, _ => rfl
  | 2, _ => rfl
  | 3, _ => rfl
  | 4, _ => rfl
  | 5, _ => rfl
  | 6, _ => rfl
  | 7, _ => rfl
  | 8, _ => rfl
  | 9, _ => rfl
theorem catS_bytes (l r : List Int) : catS (bytesOf l) (bytesOf r) = bytesOf (l ++ r) := by
  simp [catS, bytesOf]
theorem wr_digit {v : Int} (h : 0 ≤ v ∧ v < 10) : wr .i32 (wr .i64 (48 + v)) = 48 + v := by
  rw [wr64 (by omega) (by omega)]
  rw [show wr .i32 (48 + v) = sgn ((48 + v) % 4294967296) 2147483648 4294967296 from rfl]
  unfold sgn
  rw [show (48 + v) % 4294967296 = 48 + v by omega, decide_eq_false (by omega)]; rfl
theorem rxC_dig {v : Int} (h : 0 ≤ v ∧ v < 10) (W : List Int) : rxC v (bytesOf W) = bytesOf ((48 + v) :: W) := by
  unfold rxC
  rw [wr_digit h, strI_digit h, catS_bytes]; rfl
theorem lenS_bytes (W : List Int) : lenS (bytesOf W) = W.length := by simp [lenS, bytesOf]
theorem rxF_dig : ∀ (ds W : List Int), dig ds = true → rxF ds (bytesOf W) = bytesOf ((ds.map (48 + ·)).reverse ++ W)
  | [], W, _ => rfl
  | v :: r, W, h => by
    rw [dig_cons] at h
    unfold rxF
    rw [List.foldl_cons, rxC_dig h.1]
    have := rxF_dig r ((48 + v) :: W) h.2
    unfold rxF at this
    rw [this]
    simp
theorem dig_at {ds : List Int} (h : dig ds = true) {i : Nat} (hi : i < ds.length) : 0 ≤ ds[i] ∧ ds[i] < 10 := by
  unfold dig at h
  rw [List.all_eq_true] at h
  have := h ds[i] (List.getElem_mem hi)
  rw [decide_eq_true_eq] at this
  exact this
theorem rx_loop (rd : Option Nat) (ds : List Int) (hl : ds.length ≤ 999999) (hd : dig ds = true) : ∀ x : Nat × List Int, (x.1 ≤ ds.length ∧ x.2.length ≤ x.1) →
    SimC Tryd.prog 0 rd (.loop rxLp) (rxT.at [.s (bytesOf x.2), .i (x.1 : Int), .l ds]) (.exit 0) (rxX.at [.s (rxF (ds.drop x.1) (bytesOf x.2))]) := by
  refine loop_of_rounds (C := orcQ (hTabZ E0 ptZ ptE okP val)) (L := noLoops) (N := 200) (me := 46) (T := rxT) (T' := rxX) (orcQ_ok hTabZ_ok) mixed noLoops_ok (by kernel_rfl) (by kernel_rfl) (X := Nat × List Int)
    (fun x => [.s (bytesOf x.2), .i (x.1 : Int), .l ds]) (fun x => x.1 ≤ ds.length ∧ x.2.length ≤ x.1) (fun x => ds.length - x.1) (fun x => (.exit 0, [.s (rxF (ds.drop x.1) (bytesOf x.2))])) ?_
  rintro ⟨i, W⟩ ⟨hi, hW⟩
  dsimp only at hi hW ⊢
  have h := rx_round E0 ptZ ptE okP val rd ds (bytesOf W) (i : Int)
  rw [nI_eq] at h
  rcases Nat.lt_or_ge i ds.length with hlt | hge
  · have hv := dig_at hd hlt
    have hg : ds.getD i 0 = ds[i] := by rw [List.getD_eq_getElem?_getD, List.getElem?_eq_getElem hlt]; rfl
    rw [decide_eq_true (show (i : Int) < (ds.length : Int) by omega), cond_true, atI_eq (getD_some hlt), hg, wr_digit hv, strI_digit hv, lenS_bytes, lenS_bytes, decide_eq_true (show [48 + ds[i]].length + W.length ≤ 9223372036854775807 by rw [List.length_singleton]; omega), cond_true, rxC_dig hv, wr64 (by omega) (by omega)] at h
    refine ⟨_, _, _, h, codes0, .inl ⟨rfl, (i + 1, (48 + ds[i]) :: W), rfl, ⟨by dsimp only; omega, by dsimp only; rw [List.length_cons]; omega⟩, by dsimp only; omega, ?_⟩⟩
    dsimp only
    rw [List.drop_eq_getElem_cons hlt]
    unfold rxF
    rw [List.foldl_cons, rxC_dig hv]
  · rw [decide_eq_false (show ¬ (i : Int) < (ds.length : Int) by omega), cond_false] at h
    refine ⟨_, _, _, h, codes0, .inr ⟨by simp, ?_⟩⟩
    rw [List.drop_eq_nil_of_le (by omega)]; rfl
noncomputable def rxTree : List PV → Fin
  | [.s s, .i i, .l ds] => .br (decide (i = 0 ∧ ds.length ≤ 999999) && (dig ds && pB (s = ⟨#[]⟩))) (.leaf (.exit 0) (rxX.at [.s (rxF ds s)])) .no
  | _ => .no
noncomputable def rxL : Loops := sums (fun n => match n with | 6 => some (lsumF 0 rxT rxLp rxTree) | _ => none)
theorem rxL_ok : loopsOk Tryd.prog rxL := by
  intro n g hg
  simp only [rxL, sums] at hg
  split at hg
  · cases hg
    refine lsumF_ok (by kernel_rfl) (fun rd ps e1 st1 hq => ?_)
    unfold rxTree at hq
    split at hq
    · rename_i s i ds
      simp only [Fin.pick] at hq
      cases hc : (decide (i = 0 ∧ ds.length ≤ 999999) && (dig ds && pB (s = ⟨#[]⟩))) with
      | false => rw [hc] at hq; cases hq
      | true =>
        rw [hc, cond_true] at hq
        cases hq
        simp only [Bool.and_eq_true, decide_eq_true_eq, pB_iff] at hc
        obtain ⟨⟨rfl, h2⟩, h3, rfl⟩ := hc
        exact rx_loop rd ds h2 h3 (0, []) ⟨Nat.zero_le _, Nat.le_refl _⟩
    · cases hq
  · cases hg
theorem rtext_eval (a b c d : Int) : evalFn Tryd.prog (orcQ (hTabZ E0 ptZ ptE okP val)) rxL 200 46 Tryd.f46 [.agg [.int .u32 a, .int .u32 b, .int .u32 c, .int .u32 d]] [] (fun v _ => some v) =
    bif inN a b c d then bif decide (nI (dgD a b c d) = 0) then some (.str (bytesOf [48])) else cond (codesB [(rxLp, rxLp)]) (bif decide ((0 : Int) = 0 ∧ (dgD a b c d).length ≤ 999999) && (dig (dgD a b c d) && pB ((⟨#[]⟩ : ByteArray) = ⟨#[]⟩)) then some (.str (rxF (dgD a b c d) ⟨#[]⟩)) else none) none else none := by kernel_rfl
theorem rtext_p {a b c d : Int} (h : inN a b c d = true) : FnPure Tryd.prog 46 [.agg [.int .u32 a, .int .u32 b, .int .u32 c, .int .u32 d]] (.str (bytesOf (tx (nval a b c d).toNat))) := by
  refine fnPure_of_eval (N := 200) (orcQ_ok hTabZ_ok) mixed Tryd.func46 (by kernel_rfl) rxL_ok ?_ rfl rfl
  have hcd : codesB [(rxLp, rxLp)] = true := by rw [codesB_iff]; intro x hx; simp at hx; rw [hx]
  obtain ⟨m, hm, em, lm, km⟩ := dg_nat h
  have e1 : dgD a b c d = D m := em
  have hlen : (D m).length ≤ 39 := D_len_lt (Nat.lt_trans lm (by decide))
  rw [rtext_eval, hcd, h, e1, hm, show ((m : Int)).toNat = m from rfl, decide_eq_true (show (0 : Int) = 0 ∧ (D m).length ≤ 999999 from ⟨rfl, by omega⟩), dig_D, pB_iff.2 rfl]
  unfold tx
  by_cases h0 : m = 0
  · subst h0; rfl
  · have hn : decide (nI (D m) = 0) = false := by
      rw [nI_eq, decide_eq_false_iff_not]
      intro hz
      have : (D m).length = 0 := by omega
      have := List.eq_nil_of_length_eq_zero this
      have hv := val_D m
      rw [this] at hv
      simp only [val] at hv
      omega
    have := rxF_dig (D m) [] (dig_D m)
    rw [show bytesOf [] = ⟨#[]⟩ from rfl, List.append_nil] at this
    rw [hn, this, if_neg h0]
    rfl
end Go.Proofs.YthpdeiolhahobaaDoor
