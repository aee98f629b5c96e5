/- Chapter 10: the reference's Right: its loops, its contract. -/
import Derived.Test.YtojlmpcbplepcaaGreatXc
namespace Go.Proofs.YtojlmpcbplepcaaGreat
open Go Go.Eng
abbrev noR (xs ac : List Int) : RX := some (.ret, [.b false, .l xs, .l ac], [])
theorem r9 (R : NG) (rd : Option Nat) (i : Int) (xs ac : List Int) (s : CD) : roundX Tryz.prog (orcR R) noLoops 100 2 rd 25 xLp9 x9T x9T (outX x85R x85N) (.i i :: .l xs :: .l ac :: s.pv []) =
    bif decide (i < Int.ofNat ac.length) then atU ac i (fun v => bif decide (v < 0) then noR xs ac else atU ac i (fun v => bif decide (Int.ofNat xs.length ≤ v) then noR xs ac else bif decide (0 < i) then atU ac i (fun v => atU ac (wr .i64 (i - 1)) (fun w =>
      bif decide (v ≤ w) then noR xs ac else some (.normal, .i (wr .i64 (i + 1)) :: .l xs :: .l ac :: s.pv [], []))) else some (.normal, .i (wr .i64 (i + 1)) :: .l xs :: .l ac :: s.pv [], []))) else some (.exit 2, .l xs :: .l ac :: s.pv [], []) := by kernel_rfl
noncomputable def on (b : Bool) (x : RX) : RX := bif b then x else none
theorem r14 (R : NG) (rd : Option Nat) (i : Int) (xs ac : List Int) (s : CD) : roundX Tryz.prog (orcR R) noLoops 100 2 rd 25 xLp14 x14T x14T (outX x85R x85N) (.i i :: .l xs :: .l ac :: s.pv []) =
    bif decide (i < Int.ofNat xs.length) then on (decide (0 ≤ (0 : Int) ∧ 0 ≤ i ∧ i ≤ Int.ofNat xs.length)) (atU xs i (fun v => on (decide (0 + (i.toNat - 0) ≤ xs.length)) (on (R.OK (List.take (i.toNat - 0) xs)) (bif R.EN (List.take (i.toNat - 0) xs) then noR xs ac else
      on (lenOk ac) (bif accB ac i then bif !R.IB v then noR xs ac else on (decide (0 + (i.toNat - 0) ≤ xs.length)) (on (R.OK (List.take (i.toNat - 0) xs)) (bif decide (R.LB (List.take (i.toNat - 0) xs) < 0) then noR xs ac else
        on (decide (0 + (i.toNat - 0) ≤ xs.length)) (on (R.OK (List.take (i.toNat - 0) xs)) (bif decide (R.HG (List.take (i.toNat - 0) xs) < v) then noR xs ac else some (.normal, .i (wr .i64 (i + 1)) :: .l xs :: .l ac :: s.pv [], [])))))
      else on (decide (0 + (i.toNat - 0) ≤ xs.length)) (on (R.OK (List.take (i.toNat - 0) xs)) (bif !R.FR (List.take (i.toNat - 0) xs) v then noR xs ac else some (.normal, .i (wr .i64 (i + 1)) :: .l xs :: .l ac :: s.pv [], [])))))))) else
    some (.exit 4, .l xs :: .l ac :: s.pv [], []) := by kernel_rfl
def rgF (e : Nat) (s : CD) (xs ac : List Int) (b : Bool) : XE × List PV := bif b then (.exit e, .l xs :: .l ac :: s.pv []) else (.ret, [.b false, .l xs, .l ac])
theorem l9 (rd : Option Nat) (xs ac : List Int) (s : CD) (hl : ac.length ≤ 200000) : ∀ k : Nat, k ≤ ac.length → ∃ m, SimL Tryz.prog 2 rd xLp9 m (x9T.at (.i (k : Int) :: .l xs :: .l ac :: s.pv [])) (rgF 2 s xs ac (acS ac (xs.length : Int) k (ac.length - k))).1 ((outX x85R x85N (rgF 2 s xs ac (acS ac (xs.length : Int) k (ac.length - k))).1).at (rgF 2 s xs ac (acS ac (xs.length : Int) k (ac.length - k))).2) := by
  refine loop_of_roundsX_n (C := orcR nG) (L := noLoops) (N := 100) (me := 25) (T := x9T) (T' := outX x85R x85N) orcR_ok mixed noLoops_ok (by kernel_rfl) (fun e => by cases e <;> kernel_rfl) (X := Nat)
    (fun k => .i (k : Int) :: .l xs :: .l ac :: s.pv []) (fun k => k ≤ ac.length) (fun k => ac.length - k) (fun k => rgF 2 s xs ac (acS ac (xs.length : Int) k (ac.length - k))) ?_
  intro k hk
  have h := r9 nG rd (k : Int) xs ac s
  have hof : Int.ofNat ac.length = (ac.length : Int) := rfl
  have hox : Int.ofNat xs.length = (xs.length : Int) := rfl
  rw [hof, hox] at h
  rcases Nat.lt_or_ge k ac.length with hlt | hge
  · have hw : wr .i64 ((k : Int) + 1) = ((k + 1 : Nat) : Int) := by rw [wr64 (by omega) (by omega)]; omega
    rw [decide_eq_true (show (k : Int) < (ac.length : Int) by omega), cond_true, atU_at hlt, atU_at hlt, atU_at hlt, getD_el hlt, hw] at h
    have e : acS ac (xs.length : Int) k (ac.length - k) = bif acB ac (xs.length : Int) k then acS ac (xs.length : Int) (k + 1) (ac.length - (k + 1)) else false := by
      rw [show ac.length - k = (ac.length - (k + 1)) + 1 by omega]; rfl
    have bad : ∀ (hb : acB ac (xs.length : Int) k = false) (h : roundX Tryz.prog (orcR nG) noLoops 100 2 rd 25 xLp9 x9T x9T (outX x85R x85N) (.i (k : Int) :: .l xs :: .l ac :: s.pv []) = noR xs ac), ∃ e qs l, roundX Tryz.prog (orcR nG) noLoops 100 2 rd 25 xLp9 x9T x9T (outX x85R x85N) (.i (k : Int) :: .l xs :: .l ac :: s.pv []) = some (e, qs, l) ∧ codesOk l ∧
        ((e = .normal ∧ ∃ y : Nat, qs = .i (y : Int) :: .l xs :: .l ac :: s.pv [] ∧ y ≤ ac.length ∧ ac.length - y < ac.length - k ∧ rgF 2 s xs ac (acS ac (xs.length : Int) y (ac.length - y)) = rgF 2 s xs ac (acS ac (xs.length : Int) k (ac.length - k))) ∨ (e ≠ .normal ∧ (e, qs) = rgF 2 s xs ac (acS ac (xs.length : Int) k (ac.length - k)))) := fun hb h =>
      ⟨_, _, _, h, codes0, .inr ⟨by simp, by rw [e, hb]; rfl⟩⟩
    by_cases c1 : ac.getD k 0 < 0
    · rw [decide_eq_true c1, cond_true] at h
      exact bad (by cases hb : acB ac (xs.length : Int) k with
        | false => rfl
        | true => have := (acB_iff.1 hb).1; omega) h
    · rw [decide_eq_false c1, cond_false] at h
      by_cases c2 : (xs.length : Int) ≤ ac.getD k 0
      · rw [decide_eq_true c2, cond_true] at h
        exact bad (by cases hb : acB ac (xs.length : Int) k with
          | false => rfl
          | true => have := (acB_iff.1 hb).2.1; omega) h
      · rw [decide_eq_false c2, cond_false] at h
        rcases Nat.eq_zero_or_pos k with rfl | hp
        · rw [decide_eq_false (by omega), cond_false] at h
          have hb : acB ac (xs.length : Int) 0 = true := acB_iff.2 ⟨by omega, by omega, fun h => by omega⟩
          exact ⟨_, _, _, h, codes0, .inl ⟨rfl, 1, rfl, by omega, by omega, by rw [e, hb]; rfl⟩⟩
        · have hm1 : wr .i64 ((k : Int) - 1) = ((k - 1 : Nat) : Int) := by rw [wr64 (by omega) (by omega)]; omega
          rw [decide_eq_true (show (0 : Int) < (k : Int) by omega), cond_true, hm1, atU_at (show k - 1 < ac.length by omega), getD_el (show k - 1 < ac.length by omega)] at h
          by_cases c3 : ac.getD k 0 ≤ ac.getD (k - 1) 0
          · rw [decide_eq_true c3, cond_true] at h
            exact bad (by cases hb : acB ac (xs.length : Int) k with
              | false => rfl
              | true => have := (acB_iff.1 hb).2.2 hp; omega) h
          · rw [decide_eq_false c3, cond_false] at h
            have hb : acB ac (xs.length : Int) k = true := acB_iff.2 ⟨by omega, by omega, fun _ => by omega⟩
            exact ⟨_, _, _, h, codes0, .inl ⟨rfl, k + 1, rfl, by omega, by omega, by rw [e, hb]; rfl⟩⟩
  · rw [decide_eq_false (show ¬ (k : Int) < (ac.length : Int) by omega), cond_false] at h
    exact ⟨_, _, _, h, codes0, .inr ⟨by simp, by rw [show ac.length - k = 0 by omega]; rfl⟩⟩
theorem l14 (rd : Option Nat) (xs ac : List Int) (s : CD) (hx : okL xs = true) (hc : lenOk ac = true) : ∀ k : Nat, k ≤ xs.length → ∃ m, SimL Tryz.prog 2 rd xLp14 m (x14T.at (.i (k : Int) :: .l xs :: .l ac :: s.pv [])) (rgF 4 s xs ac (clS xs ac k (xs.length - k))).1 ((outX x85R x85N (rgF 4 s xs ac (clS xs ac k (xs.length - k))).1).at (rgF 4 s xs ac (clS xs ac k (xs.length - k))).2) := by
  have hl := okL_len hx
  refine loop_of_roundsX_n (C := orcR nG) (L := noLoops) (N := 100) (me := 25) (T := x14T) (T' := outX x85R x85N) orcR_ok mixed noLoops_ok (by kernel_rfl) (fun e => by cases e <;> kernel_rfl) (X := Nat)
    (fun k => .i (k : Int) :: .l xs :: .l ac :: s.pv []) (fun k => k ≤ xs.length) (fun k => xs.length - k) (fun k => rgF 4 s xs ac (clS xs ac k (xs.length - k))) ?_
  intro k hk
  have h := r14 nG rd (k : Int) xs ac s
  have hox : Int.ofNat xs.length = (xs.length : Int) := rfl
  rw [hox] at h
  rcases Nat.lt_or_ge k xs.length with hlt | hge
  · have hw : wr .i64 ((k : Int) + 1) = ((k + 1 : Nat) : Int) := by rw [wr64 (by omega) (by omega)]; omega
    have ht : (k : Int).toNat - 0 = k := rfl
    have e : clS xs ac k (xs.length - k) = bif clB xs ac k then clS xs ac (k + 1) (xs.length - (k + 1)) else false := by
      rw [show xs.length - k = (xs.length - (k + 1)) + 1 by omega]; rfl
    have o : ∀ x : RX, on true x = x := fun _ => rfl
    rw [decide_eq_true (show (k : Int) < (xs.length : Int) by omega), cond_true, decide_eq_true (show 0 ≤ (0 : Int) ∧ 0 ≤ (k : Int) ∧ (k : Int) ≤ (xs.length : Int) by omega), o, atU_at hlt, getD_el hlt, ht, decide_eq_true (show 0 + k ≤ xs.length by omega),
      show nG.OK (List.take k xs) = true from okL_take hx k, hc, o, o, o, o, o, o, o, o, o, hw, show nG.EN (List.take k xs) = tzE (xs.take k) from rfl, show nG.IB (xs.getD k 0) = isBid (xs.getD k 0) from rfl, show nG.LB (List.take k xs) = lbR (xs.take k) from rfl,
      show nG.HG (List.take k xs) = lbI (xs.take k) from rfl, show nG.FR (List.take k xs) (xs.getD k 0) = rfrI (xs.take k) (xs.getD k 0) from rfl, lbR_neg] at h
    have bad : ∀ (hb : clB xs ac k = false) (h : roundX Tryz.prog (orcR nG) noLoops 100 2 rd 25 xLp14 x14T x14T (outX x85R x85N) (.i (k : Int) :: .l xs :: .l ac :: s.pv []) = noR xs ac), ∃ e qs l, roundX Tryz.prog (orcR nG) noLoops 100 2 rd 25 xLp14 x14T x14T (outX x85R x85N) (.i (k : Int) :: .l xs :: .l ac :: s.pv []) = some (e, qs, l) ∧ codesOk l ∧
        ((e = .normal ∧ ∃ y : Nat, qs = .i (y : Int) :: .l xs :: .l ac :: s.pv [] ∧ y ≤ xs.length ∧ xs.length - y < xs.length - k ∧ rgF 4 s xs ac (clS xs ac y (xs.length - y)) = rgF 4 s xs ac (clS xs ac k (xs.length - k))) ∨ (e ≠ .normal ∧ (e, qs) = rgF 4 s xs ac (clS xs ac k (xs.length - k)))) := fun hb h =>
      ⟨_, _, _, h, codes0, .inr ⟨by simp, by rw [e, hb]; rfl⟩⟩
    have good : ∀ (hb : clB xs ac k = true) (h : roundX Tryz.prog (orcR nG) noLoops 100 2 rd 25 xLp14 x14T x14T (outX x85R x85N) (.i (k : Int) :: .l xs :: .l ac :: s.pv []) = some (.normal, .i ((k + 1 : Nat) : Int) :: .l xs :: .l ac :: s.pv [], [])), ∃ e qs l, roundX Tryz.prog (orcR nG) noLoops 100 2 rd 25 xLp14 x14T x14T (outX x85R x85N) (.i (k : Int) :: .l xs :: .l ac :: s.pv []) = some (e, qs, l) ∧ codesOk l ∧
        ((e = .normal ∧ ∃ y : Nat, qs = .i (y : Int) :: .l xs :: .l ac :: s.pv [] ∧ y ≤ xs.length ∧ xs.length - y < xs.length - k ∧ rgF 4 s xs ac (clS xs ac y (xs.length - y)) = rgF 4 s xs ac (clS xs ac k (xs.length - k))) ∨ (e ≠ .normal ∧ (e, qs) = rgF 4 s xs ac (clS xs ac k (xs.length - k)))) := fun hb h =>
      ⟨_, _, _, h, codes0, .inl ⟨rfl, k + 1, rfl, by omega, by omega, by rw [e, hb]; rfl⟩⟩
    cases c1 : tzE (xs.take k) with
    | true => rw [c1, cond_true] at h; exact bad (by unfold clB; rw [c1]; rfl) h
    | false =>
      rw [c1, cond_false] at h
      cases c2 : accB ac (k : Int) with
      | true =>
        rw [c2, cond_true] at h
        have ec : clB xs ac k = lwI (xs.take k) (xs.getD k 0) := by unfold clB; rw [c1, c2]; rfl
        have el : lwI (xs.take k) (xs.getD k 0) = (isBid (xs.getD k 0) && (hasB (xs.take k) && !decide (lbI (xs.take k) < xs.getD k 0))) := by
          unfold lwI lbI
          cases isBid (xs.getD k 0) with
          | false => rfl
          | true =>
            cases hasB (xs.take k) with
            | false => rfl
            | true =>
              simp only [Bool.true_and, cond_true]
              rw [← decide_not, Bool.eq_iff_iff, decide_eq_true_eq, decide_eq_true_eq]
              omega
        cases c3 : isBid (xs.getD k 0) with
        | false => rw [c3] at h; exact bad (by rw [ec, el, c3]; rfl) h
        | true =>
          cases c4 : hasB (xs.take k) with
          | false => rw [c3, c4] at h; exact bad (by rw [ec, el, c3, c4]; rfl) h
          | true =>
            cases c5 : decide (lbI (xs.take k) < xs.getD k 0) with
            | true => rw [c3, c4, c5] at h; exact bad (by rw [ec, el, c3, c4, c5]; rfl) h
            | false => rw [c3, c4, c5] at h; exact good (by rw [ec, el, c3, c4, c5]; rfl) h
      | false =>
        rw [c2, cond_false] at h
        cases c3 : rfrI (xs.take k) (xs.getD k 0) with
        | true => rw [c3] at h; exact good (by unfold clB; rw [c1, c2, c3]; rfl) h
        | false => rw [c3] at h; exact bad (by unfold clB; rw [c1, c2, c3]; rfl) h
  · rw [decide_eq_false (show ¬ (k : Int) < (xs.length : Int) by omega), cond_false] at h
    exact ⟨_, _, _, h, codes0, .inr ⟨by simp, by rw [show xs.length - k = 0 by omega]; rfl⟩⟩
end Go.Proofs.YtojlmpcbplepcaaGreat
