/- Chapter 10: the reference's small functions over lists of calls: the loops. -/
import Derived.Test.YtojlmpcbplepcaaGreatXq
import Derived.Test.YtojlmpcbplepcaaGreatEng5
namespace Go.Proofs.YtojlmpcbplepcaaGreat
open Go Go.Eng
abbrev RX := Option (XE × List PV × List (Code × Code))
theorem r113 (IB : Int → Bool) (rd : Option Nat) (i : Int) (xs : List Int) : roundX Tryz.prog (orcE (tabIB IB) plainL) noLoops 100 1 rd 68 xLp113 x113T x113T (outX x113X x113Y) [.i i, .l xs] =
    bif decide (0 ≤ i) then atU xs i (fun v => bif IB v then some (.ret, [.i i, .l xs], []) else some (.normal, [.i (wr .i64 (i - 1)), .l xs], [])) else some (.exit 0, [.l xs], []) := by kernel_rfl
theorem r109 (IB : Int → Bool) (rd : Option Nat) (n i : Int) (xs : List Int) : roundX Tryz.prog (orcE (tabIB IB) plainL) noLoops 100 1 rd 53 xLp109 x109T x109T (outX x109X x109X) [.i n, .i i, .l xs] =
    bif decide (0 ≤ i) then atU xs i (fun v => bif decide (v = 0) then some (.normal, [.i (wr .i64 (n + 1)), .i (wr .i64 (i - 1)), .l xs], []) else some (.exit 0, [.i n, .l xs], [])) else some (.exit 0, [.i n, .l xs], []) := by kernel_rfl
theorem r100 (IB : Int → Bool) (rd : Option Nat) (x i : Int) (xs : List Int) : roundX Tryz.prog (orcE (tabIB IB) plainL) noLoops 100 1 rd 59 xLp100 x100T x100T (outX x100X x100Y) [.i x, .i i, .l xs] =
    bif decide (0 ≤ i) then atU xs i (fun v => bif decide (v = 0) then some (.normal, [.i x, .i (wr .i64 (i - 1)), .l xs], []) else bif decide (x = 1) then
      bif decide ((wr .i64 (Int.ofNat xs.length - i)).tmod 2 = 1) then atU xs i (fun v => some (.ret, [.b (IB v), .l xs], [])) else some (.ret, [.b false, .l xs], []) else
      bif decide ((wr .i64 (Int.ofNat xs.length - i)).tmod 2 = 1) then atU xs i (fun v => some (.ret, [.b (decide (v = 1)), .l xs], [])) else some (.ret, [.b false, .l xs], [])) else some (.exit 0, [.l xs], []) := by kernel_rfl
theorem r101 (IB : Int → Bool) (rd : Option Nat) (x i : Int) (xs : List Int) : roundX Tryz.prog (orcE (tabIB IB) plainL) noLoops 100 1 rd 62 xLp101 x101T x101T (outX x101X x101Y) [.i x, .i i, .l xs] =
    bif decide (i < Int.ofNat xs.length) then atU xs i (fun v => bif decide (v = x) then some (.ret, [.b true, .l xs], []) else some (.normal, [.i x, .i (wr .i64 (i + 1)), .l xs], [])) else some (.exit 0, [.l xs], []) := by kernel_rfl
theorem r114 (IB : Int → Bool) (rd : Option Nat) (x i : Int) (xs ac : List Int) (s : CD) : roundX Tryz.prog (orcE (tabIB IB) plainL) noLoops 100 2 rd 71 xLp114 x114T x114T (outX x114X x114Y) (.i x :: .i i :: .l xs :: .l ac :: s.pv []) =
    bif decide (i < Int.ofNat ac.length) then atU ac i (fun v => bif decide (v = x) then some (.ret, [.b true, .l xs, .l ac], []) else some (.normal, .i x :: .i (wr .i64 (i + 1)) :: .l xs :: .l ac :: s.pv [], [])) else some (.exit 0, [.l xs, .l ac], []) := by kernel_rfl
theorem getD_el {l : List Int} {k : Nat} (h : k < l.length) : l[k] = l.getD k 0 := by rw [List.getD_eq_getElem?_getD, List.getElem?_eq_getElem h]; rfl
def lbF (xs : List Int) (k : Nat) : XE × List PV := bif (lastN xs k).2 then (.ret, [.i (lastN xs k).1, .l xs]) else (.exit 0, [.l xs])
theorem l113 (rd : Option Nat) (xs : List Int) (hl : xs.length ≤ 100000) : ∀ k : Nat, k ≤ xs.length → ∃ m, SimL Tryz.prog 1 rd xLp113 m (x113T.at [.i ((k : Int) - 1), .l xs]) (lbF xs k).1 ((outX x113X x113Y (lbF xs k).1).at (lbF xs k).2) := by
  refine loop_of_roundsX_n (C := orcE (tabIB isBid) plainL) (L := noLoops) (N := 100) (me := 68) (T := x113T) (T' := outX x113X x113Y) (orcE_ok tabIB_ok plainL_ok) mixed noLoops_ok (by kernel_rfl) (fun e => by cases e <;> kernel_rfl) (X := Nat)
    (fun k => [.i ((k : Int) - 1), .l xs]) (fun k => k ≤ xs.length) (fun k => k) (lbF xs) ?_
  intro k hk
  have h := r113 isBid rd ((k : Int) - 1) xs
  cases k with
  | zero =>
    rw [decide_eq_false (by omega), cond_false] at h
    exact ⟨_, _, _, h, codes0, .inr ⟨by simp, rfl⟩⟩
  | succ k =>
    rw [show ((k + 1 : Nat) : Int) - 1 = (k : Int) by omega, decide_eq_true (by omega), cond_true, atU_at (by omega), getD_el (by omega), wr64 (by omega) (by omega)] at h
    rw [show ((k + 1 : Nat) : Int) - 1 = (k : Int) by omega]
    have e : lastN xs (k + 1) = bif isBid (xs.getD k 0) then ((k : Int), true) else lastN xs k := rfl
    cases hb : isBid (xs.getD k 0) with
    | true =>
      rw [hb, cond_true] at h e
      exact ⟨_, _, _, h, codes0, .inr ⟨by simp, by unfold lbF; rw [e]; rfl⟩⟩
    | false =>
      rw [hb, cond_false] at h e
      exact ⟨_, _, _, h, codes0, .inl ⟨rfl, k, rfl, by omega, by omega, by unfold lbF; rw [e]⟩⟩
def tzN (xs : List Int) : Nat → Nat
  | 0 => 0
  | k + 1 => bif decide (xs.getD k 0 = 0) then tzN xs k + 1 else 0
theorem tzN_app (l r : List Int) : ∀ k, k ≤ l.length → tzN (l ++ r) k = tzN l k
  | 0, _ => rfl
  | k + 1, h => by
    have e : (l ++ r).getD k 0 = l.getD k 0 := by rw [List.getD_eq_getElem?_getD, List.getD_eq_getElem?_getD, List.getElem?_append_left (by omega)]
    unfold tzN
    rw [e, tzN_app l r k (by omega)]
theorem tzN_is : ∀ (n : Nat) (xs : List Int), xs.length = n → tzN xs xs.length = tz xs := by
  intro n
  induction n with
  | zero => intro xs h; rw [List.eq_nil_of_length_eq_zero h]; rfl
  | succ n ih =>
    intro xs h
    obtain ⟨q, c, rfl⟩ : ∃ q c, xs = q ++ [c] := ⟨xs.dropLast, xs.getLast (by intro e; rw [e] at h; cases h), (List.dropLast_concat_getLast _).symm⟩
    have hq : q.length = n := by simpa using h
    rw [List.length_append, List.length_singleton]
    unfold tzN
    rw [getD_last, tzN_app _ _ _ (Nat.le_refl _), ih q hq]
    by_cases hc : c = 0
    · rw [hc, tz_pass, decide_eq_true rfl, cond_true]
    · rw [decide_eq_false hc, cond_false, tz_call hc]
theorem l109 (rd : Option Nat) (xs : List Int) (hl : xs.length ≤ 100000) : ∀ x : Nat × Nat, x.1 ≤ xs.length ∧ x.1 + x.2 ≤ 100000 → ∃ m, SimL Tryz.prog 1 rd xLp109 m (x109T.at [.i (x.2 : Int), .i ((x.1 : Int) - 1), .l xs]) (.exit 0) (x109X.at [.i ((x.2 + tzN xs x.1 : Nat) : Int), .l xs]) := by
  refine loop_of_roundsX_n (C := orcE (tabIB isBid) plainL) (L := noLoops) (N := 100) (me := 53) (T := x109T) (T' := outX x109X x109X) (orcE_ok tabIB_ok plainL_ok) mixed noLoops_ok (by kernel_rfl) (fun e => by cases e <;> kernel_rfl) (X := Nat × Nat)
    (fun x => [.i (x.2 : Int), .i ((x.1 : Int) - 1), .l xs]) (fun x => x.1 ≤ xs.length ∧ x.1 + x.2 ≤ 100000) (fun x => x.1) (fun x => (.exit 0, [.i ((x.2 + tzN xs x.1 : Nat) : Int), .l xs])) ?_
  rintro ⟨k, n⟩ ⟨hk, hn⟩
  dsimp only at hk hn ⊢
  have h := r109 isBid rd (n : Int) ((k : Int) - 1) xs
  cases k with
  | zero =>
    rw [decide_eq_false (by omega), cond_false] at h
    exact ⟨_, _, _, h, codes0, .inr ⟨by simp, rfl⟩⟩
  | succ k =>
    rw [show ((k + 1 : Nat) : Int) - 1 = (k : Int) by omega, decide_eq_true (by omega), cond_true, atU_at (by omega), getD_el (by omega), wr64 (n := (k : Int) - 1) (by omega) (by omega), wr64 (by omega) (by omega)] at h
    rw [show ((k + 1 : Nat) : Int) - 1 = (k : Int) by omega]
    have e : tzN xs (k + 1) = bif decide (xs.getD k 0 = 0) then tzN xs k + 1 else 0 := rfl
    cases hb : decide (xs.getD k 0 = 0) with
    | true =>
      rw [hb, cond_true] at h e
      exact ⟨_, _, _, h, codes0, .inl ⟨rfl, (k, n + 1), rfl, by dsimp only; omega, by dsimp only; omega, by rw [e]; dsimp only; rw [show n + 1 + tzN xs k = n + (tzN xs k + 1) by omega]⟩⟩
    | false =>
      rw [hb, cond_false] at h e
      exact ⟨_, _, _, h, codes0, .inr ⟨by simp, by rw [e]; rfl⟩⟩
def allz (xs : List Int) : Nat → Bool
  | 0 => true
  | k + 1 => bif decide (xs.getD k 0 = 0) then allz xs k else false
def frF (xs : List Int) (x : Int) (k : Nat) : XE × List PV := bif allz xs k then (.exit 0, [.l xs]) else (.ret, [.b (frW xs x k), .l xs])
theorem allz_frW {xs : List Int} {x : Int} : ∀ k, allz xs k = true → frW xs x k = false
  | 0, _ => rfl
  | k + 1, h => by
    unfold allz at h
    unfold frW
    cases hb : decide (xs.getD k 0 = 0) with
    | true => rw [hb, cond_true] at h; rw [cond_true]; exact allz_frW k h
    | false => rw [hb] at h; cases h
theorem l100 (rd : Option Nat) (xs : List Int) (x : Int) (hl : xs.length ≤ 100000) : ∀ k : Nat, k ≤ xs.length → ∃ m, SimL Tryz.prog 1 rd xLp100 m (x100T.at [.i x, .i ((k : Int) - 1), .l xs]) (frF xs x k).1 ((outX x100X x100Y (frF xs x k).1).at (frF xs x k).2) := by
  refine loop_of_roundsX_n (C := orcE (tabIB isBid) plainL) (L := noLoops) (N := 100) (me := 59) (T := x100T) (T' := outX x100X x100Y) (orcE_ok tabIB_ok plainL_ok) mixed noLoops_ok (by kernel_rfl) (fun e => by cases e <;> kernel_rfl) (X := Nat)
    (fun k => [.i x, .i ((k : Int) - 1), .l xs]) (fun k => k ≤ xs.length) (fun k => k) (frF xs x) ?_
  intro k hk
  have h := r100 isBid rd x ((k : Int) - 1) xs
  cases k with
  | zero =>
    rw [decide_eq_false (by omega), cond_false] at h
    exact ⟨_, _, _, h, codes0, .inr ⟨by simp, rfl⟩⟩
  | succ k =>
    have hof : Int.ofNat xs.length = (xs.length : Int) := rfl
    have hkl : k < xs.length := by omega
    have hw : wr .i64 ((xs.length : Int) - (k : Int)) = (xs.length : Int) - (k : Int) := wr64 (by omega) (by omega)
    rw [show ((k + 1 : Nat) : Int) - 1 = (k : Int) by omega, decide_eq_true (show (0 : Int) ≤ (k : Int) by omega), cond_true, atU_at hkl, atU_at hkl, atU_at hkl, getD_el hkl, wr64 (n := (k : Int) - 1) (by omega) (by omega), hof, hw, Int.tmod_eq_emod_of_nonneg (show 0 ≤ (xs.length : Int) - (k : Int) by omega)] at h
    rw [show ((k + 1 : Nat) : Int) - 1 = (k : Int) by omega]
    have hp : decide (((xs.length : Int) - (k : Int)) % 2 = 1) = decide ((xs.length - k) % 2 = 1) := by rw [Bool.eq_iff_iff, decide_eq_true_eq, decide_eq_true_eq]; omega
    rw [hp] at h
    have e1 : allz xs (k + 1) = bif decide (xs.getD k 0 = 0) then allz xs k else false := rfl
    have e2 : frW xs x (k + 1) = bif decide (xs.getD k 0 = 0) then frW xs x k else decide ((xs.length - k) % 2 = 1) && (bif decide (x = 1) then isBid (xs.getD k 0) else decide (xs.getD k 0 = 1)) := rfl
    cases hb : decide (xs.getD k 0 = 0) with
    | true =>
      rw [hb, cond_true] at h e1 e2
      exact ⟨_, _, _, h, codes0, .inl ⟨rfl, k, rfl, by omega, by omega, by unfold frF; rw [e1, e2]⟩⟩
    | false =>
      rw [hb, cond_false] at h e1 e2
      unfold frF
      rw [e1, e2]
      cases h1 : decide (x = 1) <;> cases h2 : decide ((xs.length - k) % 2 = 1) <;> simp only [h1, h2, cond_true, cond_false] at h <;> exact ⟨_, _, _, h, codes0, .inr ⟨by simp, rfl⟩⟩
def amB (xs : List Int) (x : Int) : Bool := xs.any fun a => decide (a = x)
def amF (xs : List Int) (b : Bool) : XE × List PV := bif b then (.ret, [.b true, .l xs]) else (.exit 0, [.l xs])
theorem amB_drop {xs : List Int} {x : Int} {i : Nat} (h : i < xs.length) : amB (xs.drop i) x = (decide (xs.getD i 0 = x) || amB (xs.drop (i + 1)) x) := by
  rw [List.drop_eq_getElem_cons h, getD_el h]; rfl
theorem l101 (rd : Option Nat) (xs : List Int) (x : Int) (hl : xs.length ≤ 100000) : ∀ k : Nat, k ≤ xs.length → ∃ m, SimL Tryz.prog 1 rd xLp101 m (x101T.at [.i x, .i (k : Int), .l xs]) (amF xs (amB (xs.drop k) x)).1 ((outX x101X x101Y (amF xs (amB (xs.drop k) x)).1).at (amF xs (amB (xs.drop k) x)).2) := by
  refine loop_of_roundsX_n (C := orcE (tabIB isBid) plainL) (L := noLoops) (N := 100) (me := 62) (T := x101T) (T' := outX x101X x101Y) (orcE_ok tabIB_ok plainL_ok) mixed noLoops_ok (by kernel_rfl) (fun e => by cases e <;> kernel_rfl) (X := Nat)
    (fun k => [.i x, .i (k : Int), .l xs]) (fun k => k ≤ xs.length) (fun k => xs.length - k) (fun k => amF xs (amB (xs.drop k) x)) ?_
  intro k hk
  have h := r101 isBid rd x (k : Int) xs
  have hof : Int.ofNat xs.length = (xs.length : Int) := rfl
  rw [hof] at h
  rcases Nat.lt_or_ge k xs.length with hlt | hge
  · rw [decide_eq_true (by omega), cond_true, atU_at hlt, getD_el hlt, wr64 (by omega) (by omega)] at h
    cases hb : decide (xs.getD k 0 = x) with
    | true =>
      rw [hb, cond_true] at h
      exact ⟨_, _, _, h, codes0, .inr ⟨by simp, by rw [amB_drop hlt, hb]; rfl⟩⟩
    | false =>
      rw [hb, cond_false] at h
      exact ⟨_, _, _, h, codes0, .inl ⟨rfl, k + 1, rfl, by omega, by omega, by rw [amB_drop hlt, hb]; rfl⟩⟩
  · rw [decide_eq_false (by omega), cond_false] at h
    exact ⟨_, _, _, h, codes0, .inr ⟨by simp, by rw [List.drop_eq_nil_of_le hge]; rfl⟩⟩
def amG (xs ac : List Int) (b : Bool) : XE × List PV := bif b then (.ret, [.b true, .l xs, .l ac]) else (.exit 0, [.l xs, .l ac])
theorem l114 (rd : Option Nat) (xs ac : List Int) (s : CD) (x : Int) (hl : ac.length ≤ 200000) : ∀ k : Nat, k ≤ ac.length → ∃ m, SimL Tryz.prog 2 rd xLp114 m (x114T.at (.i x :: .i (k : Int) :: .l xs :: .l ac :: s.pv [])) (amG xs ac (amB (ac.drop k) x)).1 ((outX x114X x114Y (amG xs ac (amB (ac.drop k) x)).1).at (amG xs ac (amB (ac.drop k) x)).2) := by
  refine loop_of_roundsX_n (C := orcE (tabIB isBid) plainL) (L := noLoops) (N := 100) (me := 71) (T := x114T) (T' := outX x114X x114Y) (orcE_ok tabIB_ok plainL_ok) mixed noLoops_ok (by kernel_rfl) (fun e => by cases e <;> kernel_rfl) (X := Nat)
    (fun k => .i x :: .i (k : Int) :: .l xs :: .l ac :: s.pv []) (fun k => k ≤ ac.length) (fun k => ac.length - k) (fun k => amG xs ac (amB (ac.drop k) x)) ?_
  intro k hk
  have h := r114 isBid rd x (k : Int) xs ac s
  have hof : Int.ofNat ac.length = (ac.length : Int) := rfl
  rw [hof] at h
  rcases Nat.lt_or_ge k ac.length with hlt | hge
  · rw [decide_eq_true (by omega), cond_true, atU_at hlt, getD_el hlt, wr64 (by omega) (by omega)] at h
    cases hb : decide (ac.getD k 0 = x) with
    | true =>
      rw [hb, cond_true] at h
      exact ⟨_, _, _, h, codes0, .inr ⟨by simp, by rw [amB_drop hlt, hb]; rfl⟩⟩
    | false =>
      rw [hb, cond_false] at h
      exact ⟨_, _, _, h, codes0, .inl ⟨rfl, k + 1, rfl, by omega, by omega, by rw [amB_drop hlt, hb]; rfl⟩⟩
  · rw [decide_eq_false (by omega), cond_false] at h
    exact ⟨_, _, _, h, codes0, .inr ⟨by simp, by rw [List.drop_eq_nil_of_le hge]; rfl⟩⟩
end Go.Proofs.YtojlmpcbplepcaaGreat
