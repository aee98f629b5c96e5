/- Chapter 3: SeedShuffled's second and third loops. -/
import Derived.Test.YtnbfnoomhlamnaaLSh2T
namespace Go.Proofs.Ytnbfnoomhlamnaa
open Go Go.Eng
theorem ls_round2 (rd : Option Nat) (l n : Nat) (r : Bool) (s a m i : Int) (xs out met ord : List Int) : roundT Try.prog lsO noLoops 100 1 rd 6 lsLp2 lsT2 lsX2 (lsP2 l n r s a m i xs out met ord) =
    bif decide (i < m) then bif decide (0 ≤ i ∧ i < Int.ofNat ord.length) then
      match ord[i.toNat]? with
      | some v => bif decide (v < 0) then some (.ret, lsQ2 l n false s a xs out met, []) else bif decide (Int.ofNat n ≤ v) then some (.ret, lsQ2 l n false s a xs out met, []) else
          bif decide (0 ≤ i ∧ i < Int.ofNat out.length) then
            match out[i.toNat]? with
            | some x => bif decide (0 ≤ v ∧ v < Int.ofNat n ∧ l + n ≤ xs.length) then
                match xs[addS l v.toNat]? with
                | some y => bif !decide (x = y) then some (.ret, lsQ2 l n false s a xs out met, []) else
                    bif decide (0 ≤ v ∧ v < Int.ofNat met.length) then
                      match met[v.toNat]? with
                      | some c => bif decide (0 ≤ v ∧ v < Int.ofNat met.length) then bif decide (v.toNat < met.length) then
                          some (.normal, lsP2 l n r s a m (wr .i64 (i + 1)) xs out (met.set v.toNat (wr .i64 (c + 1))) ord, []) else none else none
                      | none => none
                    else none
                | none => none
              else none
            | none => none
          else none
      | none => none
    else none
    else some (.exit 2, lsQ2 l n r s a xs out met, []) := by kernel_rfl
theorem ls_round3 (rd : Option Nat) (l n : Nat) (r : Bool) (s a m i : Int) (xs out met : List Int) : roundT Try.prog lsO noLoops 100 1 rd 6 lsLp3 lsT3 lsX3 (lsP3 l n r s a m i xs out met) =
    bif decide (i < m) then bif decide (0 ≤ i ∧ i < Int.ofNat met.length) then
      match met[i.toNat]? with
      | some v => bif !decide (v = 1) then some (.ret, lsQ3 l n false s a xs out, []) else some (.normal, lsP3 l n r s a m (wr .i64 (i + 1)) xs out met, [])
      | none => none
    else none
    else some (.exit 4, lsQ3 l n r s a xs out, []) := by kernel_rfl

noncomputable def pB (p : Prop) : Bool := @decide p (Classical.propDecidable p)
theorem pB_iff {p : Prop} : pB p = true ↔ p := by unfold pB; exact @decide_eq_true_iff p (Classical.propDecidable p)
/-- How often each place has been met. -/
def cnt (n : Nat) (l : List Int) : List Int := (List.range n).map (fun (k : Nat) => ((l.count (k : Int) : Nat) : Int))
theorem cnt_len (n : Nat) (l : List Int) : (cnt n l).length = n := by simp [cnt]
theorem cnt_get {n : Nat} {l : List Int} {k : Nat} (h : k < n) : (cnt n l)[k]? = some ((l.count (k : Int) : Nat) : Int) := by
  simp [cnt, h]
theorem cnt_nil (n : Nat) : cnt n [] = List.replicate n 0 := by
  apply List.ext_getElem?
  intro i
  by_cases h : i < n
  · rw [cnt_get h, List.getElem?_replicate, if_pos h]; rfl
  · rw [List.getElem?_eq_none (by rw [cnt_len]; omega), List.getElem?_eq_none (by simp; omega)]
theorem cnt_snoc {n k : Nat} {l : List Int} : (cnt n l).set k (((l.count (k : Int) : Nat) : Int) + 1) = cnt n (l ++ [(k : Int)]) := by
  apply List.ext_getElem?
  intro i
  by_cases hi : i < n
  · rw [cnt_get hi, List.count_append]
    by_cases hk : k = i
    · subst hk
      rw [List.getElem?_set_self (by rw [cnt_len]; exact hi)]
      simp
    · rw [List.getElem?_set_ne hk, cnt_get hi]
      have : List.count (i : Int) [(k : Int)] = 0 := by
        rw [List.count_eq_zero]; simp; omega
      rw [this]; simp
  · rw [List.getElem?_eq_none (by rw [List.length_set, cnt_len]; omega), List.getElem?_eq_none (by rw [cnt_len]; omega)]

def ok2 (n : Nat) (xs out ord : List Int) : Prop := ord.length = n ∧ out.length = n ∧ n ≤ xs.length ∧ n ≤ 60 ∧ ∀ i, i < n → ∃ k : Nat, k < n ∧ ord[i]? = some (k : Int) ∧ out[i]? = xs[k]?
theorem ls_loop2 (rd : Option Nat) (n : Nat) (r : Bool) (s a : Int) (xs out ord : List Int) (H : ok2 n xs out ord) : ∀ i : Nat, i ≤ n →
    SimC Try.prog 1 rd (.loop lsLp2) (lsT2.at (lsP2 0 n r s a n i xs out (cnt n (ord.take i)) ord)) (.exit 2) (lsX2.at (lsQ2 0 n r s a xs out (cnt n ord))) := by
  obtain ⟨h1, h2, h3, h4, h5⟩ := H
  refine loop_of_rounds (C := lsO) (L := noLoops) (N := 100) (me := 6) (T := lsT2) (T' := lsX2) lsO_ok mixed noLoops_ok (by kernel_rfl) (by kernel_rfl) (X := Nat)
    (fun i => lsP2 0 n r s a n i xs out (cnt n (ord.take i)) ord) (fun i => i ≤ n) (fun i => n - i) (fun _ => (.exit 2, lsQ2 0 n r s a xs out (cnt n ord))) ?_
  intro i hi
  have h := ls_round2 rd 0 n r s a n i xs out (cnt n (ord.take i)) ord
  by_cases hlt : i < n
  · obtain ⟨k, hk, e1, e2⟩ := h5 i hlt
    have hx : k < xs.length := by omega
    have ho : i < out.length := by omega
    have d1 : decide ((i : Int) < (n : Int)) = true := decide_eq_true (by omega)
    have d2 : decide (0 ≤ (i : Int) ∧ (i : Int) < Int.ofNat ord.length) = true := decide_eq_true ⟨by omega, by show (i : Int) < (ord.length : Int); omega⟩
    have d3 : decide ((k : Int) < 0) = false := decide_eq_false (by omega)
    have d4 : decide (Int.ofNat n ≤ (k : Int)) = false := decide_eq_false (by show ¬ (n : Int) ≤ (k : Int); omega)
    have d5 : decide (0 ≤ (i : Int) ∧ (i : Int) < Int.ofNat out.length) = true := decide_eq_true ⟨by omega, by show (i : Int) < (out.length : Int); omega⟩
    have d6 : decide (0 ≤ (k : Int) ∧ (k : Int) < Int.ofNat n ∧ 0 + n ≤ xs.length) = true := decide_eq_true ⟨by omega, by show (k : Int) < (n : Int); omega, by omega⟩
    have d7 : decide (0 ≤ (k : Int) ∧ (k : Int) < Int.ofNat (cnt n (ord.take i)).length) = true := decide_eq_true ⟨by omega, by rw [cnt_len]; show (k : Int) < (n : Int); omega⟩
    have d8 : decide (k < (cnt n (ord.take i)).length) = true := decide_eq_true (by rw [cnt_len]; exact hk)
    have t1 : ((i : Int)).toNat = i := by omega
    have t2 : ((k : Int)).toNat = k := by omega
    rw [List.getElem?_eq_getElem hx] at e2
    have hc : (ord.take i).count (k : Int) ≤ 60 := Nat.le_trans List.count_le_length (by rw [List.length_take]; omega)
    rw [d1, d2, t1, e1] at h
    simp only [cond_true, d3, d4, d5, d6, cond_false, e2, t2, show addS 0 k = k from rfl, List.getElem?_eq_getElem hx, d7, cnt_get hk, d8] at h
    simp only [decide_true, Bool.not_true, cond_false] at h
    have w1 : wr .i64 ((i : Int) + 1) = ((i + 1 : Nat) : Int) := by rw [wr64 (by omega) (by omega)]; omega
    have w2 : wr .i64 ((((ord.take i).count (k : Int) : Nat) : Int) + 1) = (((ord.take i).count (k : Int) : Nat) : Int) + 1 := wr64 (by omega) (by omega)
    have e3 : ord.take i ++ [(k : Int)] = ord.take (i + 1) := by rw [List.take_add_one, e1]; rfl
    rw [w1, w2, cnt_snoc, e3] at h
    exact ⟨_, _, _, h, codes0, .inl ⟨rfl, i + 1, rfl, by omega, by omega, rfl⟩⟩
  · have : i = n := by omega
    subst this
    have d1 : decide ((i : Int) < (i : Int)) = false := decide_eq_false (by omega)
    have e : ord.take i = ord := List.take_of_length_le (by omega)
    rw [d1, cond_false, e] at h
    refine ⟨_, _, _, by rw [e]; exact h, codes0, .inr ⟨by simp, rfl⟩⟩
theorem ls_loop3 (rd : Option Nat) (l n : Nat) (r : Bool) (s a : Int) (xs out met : List Int) (H : met.length ≤ 60 ∧ ∀ (i : Nat) x, met[i]? = some x → x = 1) : ∀ i : Nat, i ≤ met.length →
    SimC Try.prog 1 rd (.loop lsLp3) (lsT3.at (lsP3 l n r s a met.length i xs out met)) (.exit 4) (lsX3.at (lsQ3 l n r s a xs out)) := by
  obtain ⟨h1, h2⟩ := H
  refine loop_of_rounds (C := lsO) (L := noLoops) (N := 100) (me := 6) (T := lsT3) (T' := lsX3) lsO_ok mixed noLoops_ok (by kernel_rfl) (by kernel_rfl) (X := Nat)
    (fun i => lsP3 l n r s a met.length i xs out met) (fun i => i ≤ met.length) (fun i => met.length - i) (fun _ => (.exit 4, lsQ3 l n r s a xs out)) ?_
  intro i hi
  have h := ls_round3 rd l n r s a met.length i xs out met
  by_cases hlt : i < met.length
  · have d1 : decide ((i : Int) < (met.length : Int)) = true := decide_eq_true (by omega)
    have d2 : decide (0 ≤ (i : Int) ∧ (i : Int) < Int.ofNat met.length) = true := decide_eq_true ⟨by omega, by show (i : Int) < (met.length : Int); omega⟩
    have t1 : ((i : Int)).toNat = i := by omega
    have hx := h2 i met[i] (List.getElem?_eq_getElem hlt)
    rw [d1, d2, t1, List.getElem?_eq_getElem hlt] at h
    simp only [cond_true, hx, decide_true, Bool.not_true, cond_false] at h
    have w1 : wr .i64 ((i : Int) + 1) = ((i + 1 : Nat) : Int) := by rw [wr64 (by omega) (by omega)]; omega
    rw [w1] at h
    exact ⟨_, _, _, h, codes0, .inl ⟨rfl, i + 1, rfl, by omega, by omega, rfl⟩⟩
  · have d1 : decide ((i : Int) < (met.length : Int)) = false := decide_eq_false (by omega)
    rw [d1, cond_false] at h
    exact ⟨_, _, _, h, codes0, .inr ⟨by simp, rfl⟩⟩
noncomputable def lsTree2 : List PV → Fin
  | [.n l, .n n, .b r, .i s, .i a, .i m, .i i, .l xs, .l out, .l met, .l ord] => .br (pB (l = 0 ∧ m = n ∧ i = 0 ∧ met = List.replicate n 0 ∧ ok2 n xs out ord)) (.leaf (.exit 2) (lsX2.at (lsQ2 l n r s a xs out (cnt n ord)))) .no
  | _ => .no
noncomputable def lsTree3 : List PV → Fin
  | [.n l, .n n, .b r, .i s, .i a, .i m, .i i, .l xs, .l out, .l met] => .br (pB (m = met.length ∧ i = 0 ∧ met.length ≤ 60 ∧ ∀ (i : Nat) x, met[i]? = some x → x = 1)) (.leaf (.exit 4) (lsX3.at (lsQ3 l n r s a xs out))) .no
  | _ => .no
noncomputable def lsSum2 : LoopSum := lsumE 1 lsT2 lsLp2 lsTree2 unroll
noncomputable def lsSum3 : LoopSum := lsumE 1 lsT3 lsLp3 lsTree3 unroll
theorem lsSum2_ok : LoopOk Try.prog lsSum2 := by
  refine lsumE_ok (by kernel_rfl) (fun rd ps e1 s1 h => ?_) unroll_ok
  unfold lsTree2 at h
  split at h
  · rename_i l n r s a m i xs out met ord
    simp only [Fin.pick] at h
    cases hc : pB (l = 0 ∧ m = n ∧ i = 0 ∧ met = List.replicate n 0 ∧ ok2 n xs out ord) with
    | false => rw [hc] at h; cases h
    | true =>
      rw [hc, cond_true] at h
      rw [pB_iff] at hc
      obtain ⟨rfl, rfl, rfl, rfl, ho⟩ := hc
      cases h
      have := ls_loop2 rd n r s a xs out ord ho 0 (by omega)
      rw [List.take_zero, cnt_nil] at this
      exact this
  · cases h
theorem lsSum3_ok : LoopOk Try.prog lsSum3 := by
  refine lsumE_ok (by kernel_rfl) (fun rd ps e1 s1 h => ?_) unroll_ok
  unfold lsTree3 at h
  split at h
  · rename_i l n r s a m i xs out met
    simp only [Fin.pick] at h
    cases hc : pB (m = met.length ∧ i = 0 ∧ met.length ≤ 60 ∧ ∀ (i : Nat) x, met[i]? = some x → x = 1) with
    | false => rw [hc] at h; cases h
    | true =>
      rw [hc, cond_true] at h
      rw [pB_iff] at hc
      obtain ⟨rfl, rfl, ho⟩ := hc
      cases h
      exact ls_loop3 rd l n r s a xs out met ho 0 (by omega)
  · cases h
noncomputable def lsLoops : Loops := sums (fun n => match n with | 8 => some lsSum1 | 17 => some lsSum2 | 24 => some lsSum3 | _ => none)
theorem lsLoops_ok : loopsOk Try.prog lsLoops := by
  intro n g hg
  simp only [lsLoops, sums] at hg
  split at hg
  · cases hg; exact lsSum1_ok
  · cases hg; exact lsSum2_ok
  · cases hg; exact lsSum3_ok
  · cases hg
end Go.Proofs.Ytnbfnoomhlamnaa
