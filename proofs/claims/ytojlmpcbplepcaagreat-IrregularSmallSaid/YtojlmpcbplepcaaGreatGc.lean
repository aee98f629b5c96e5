/- Chapter 10: the calls of a course, one by one. -/
import Derived.Test.YtojlmpcbplepcaaGreatLe
namespace Go.Proofs.YtojlmpcbplepcaaGreat
open Go Go.Eng
theorem lastN_app (xs : List Int) (c : Int) : ∀ n, n ≤ xs.length → lastN (xs ++ [c]) n = lastN xs n
  | 0, _ => rfl
  | n + 1, h => by
    unfold lastN
    rw [getD_app (by omega), lastN_app xs c n (by omega)]
theorem lastN_snoc (xs : List Int) (c : Int) : lastN (xs ++ [c]) (xs ++ [c]).length = bif isBid c then ((xs.length : Int), true) else lastN xs xs.length := by
  rw [List.length_append, List.length_singleton]
  show (bif isBid ((xs ++ [c]).getD xs.length 0) then ((xs.length : Int), true) else lastN (xs ++ [c]) xs.length) = _
  rw [getD_last, lastN_app _ _ _ (Nat.le_refl _)]
theorem lastI_snoc (xs : List Int) (c : Int) : lastI (xs ++ [c]) = bif isBid c then (xs.length : Int) else lastI xs := by
  unfold lastI; rw [lastN_snoc]; cases isBid c <;> rfl
theorem hasB_snoc (xs : List Int) (c : Int) : hasB (xs ++ [c]) = (isBid c || hasB xs) := by
  unfold hasB; rw [lastN_snoc]; cases isBid c <;> rfl
theorem lastI_le (xs : List Int) : (lastI xs).toNat ≤ xs.length := by have := lastI_range xs; omega
theorem lbI_snoc (xs : List Int) (c : Int) : lbI (xs ++ [c]) = bif isBid c then c else lbI xs := by
  unfold lbI
  rw [hasB_snoc, lastI_snoc]
  cases hb : isBid c with
  | true => show (xs ++ [c]).getD ((xs.length : Int)).toNat 0 = c; exact getD_last xs c
  | false =>
    simp only [Bool.false_or, cond_false]
    cases hh : hasB xs with
    | false => rfl
    | true =>
      have := (lastI_range xs).2.2.1 hh
      exact getD_app (by have := (lastI_range xs).1; omega)
theorem rcL_snoc (xs : List Int) (c : Int) : rcL (xs ++ [c]) = bif isBid c then [c] else rcL xs ++ [c] := by
  unfold rcL
  rw [lastI_snoc]
  cases isBid c with
  | true => show (xs ++ [c]).drop ((xs.length : Int)).toNat = [c]; simp
  | false => show (xs ++ [c]).drop (lastI xs).toNat = _; rw [List.drop_append_of_le_length (lastI_le xs)]; rfl
theorem rcD_snoc (d : Int) (xs : List Int) (c : Int) : rcD d (xs ++ [c]) = bif isBid c then mkI d xs.length else rcD d xs := by
  unfold rcD
  rw [lastI_snoc]
  cases isBid c <;> rfl
def Tt (d : Int) (xs : List Int) : St := (fol (rcD d xs) (rcL xs)).s
theorem mk_is {d : Int} {n : Nat} (hd : 0 ≤ d ∧ d ≤ 3) (hn : n ≤ 1000000) : mkI d n = (d + n) % 4 := by
  unfold mkI
  rw [wr64 (n := d) (by omega) (by omega), wr64 (by omega) (by omega), Int.tmod_eq_emod_of_nonneg (by omega), wr_u8_id (by omega)]
structure GI (d : Int) (xs : List Int) : Prop where
  dd : 0 ≤ d ∧ d ≤ 3
  e : (fol (rcD d xs) (rcL xs)).e = 0
  g : gS (Tt d xs)
  m : (Tt d xs).b.m = hasB xs
  c : (Tt d xs).b.c = lbI xs
  t : (Tt d xs).turn = (d + xs.length) % 4
  p : 0 ≤ (Tt d xs).passes ∧ (Tt d xs).passes ≤ 4
  k : ∀ c ∈ xs, 0 ≤ c ∧ c ≤ 37
theorem GI.ov {d : Int} {xs : List Int} (h : GI d xs) : ovI d xs = ovr (Tt d xs) := by
  unfold ovI; rw [decide_eq_true h.e, Bool.true_and]; rfl
theorem GI.fr {d : Int} {xs : List Int} (h : GI d xs) (c : Int) : frI d xs c = decide (chk (Tt d xs) c = 0) := by
  unfold frI
  rw [fol_snoc h.e]
  show decide ((bif decide (chk (Tt d xs) c = 0) then _ else _ : FR).e = 0) = _
  by_cases hc : chk (Tt d xs) c = 0
  · rw [decide_eq_true hc]; rfl
  · rw [decide_eq_false hc, cond_false]
    exact decide_eq_false hc
theorem chk_bid {s : St} {c : Int} (ho : ovr s = false) (hb : isBid c = true) : chk s c = bif decide (s.b.c < c) then 0 else 2 := by
  simp only [isBid, Bool.and_eq_true, decide_eq_true_eq] at hb
  unfold chk
  rw [ho, decide_eq_true hb.2, decide_eq_false (show ¬ c = 0 by omega), decide_eq_false (show ¬ c = 1 by omega), decide_eq_false (show ¬ c = 2 by omega)]; rfl
theorem bid3 {c : Int} (h : isBid c = true) : 3 ≤ c ∧ c ≤ 37 := by simpa [isBid] using h
theorem lbI_range (xs : List Int) : (hasB xs = true → isBid (lbI xs) = true) ∧ (hasB xs = false → lbI xs = 0) := by
  unfold lbI
  constructor
  · intro h
    rw [h]
    unfold hasB at h
    obtain ⟨k, h1, h2, h3, _⟩ := lastN_some _ h
    show isBid (xs.getD (lastI xs).toNat 0) = true
    unfold lastI
    rw [h2]; exact h3
  · intro h; rw [h]; rfl
theorem GI.bid {d : Int} {xs : List Int} (h : GI d xs) (ho : ovI d xs = false) {c : Int} (hb : isBid c = true) : frI d xs c = !lwI xs c := by
  rw [h.fr, chk_bid (by rw [← h.ov]; exact ho) hb, h.c]
  unfold lwI
  rw [hb, Bool.true_and]
  have hl := lbI_range xs
  have h3 := bid3 hb
  cases hh : hasB xs with
  | false =>
    rw [hl.2 hh, decide_eq_true (show (0 : Int) < c by omega)]; rfl
  | true =>
    have e : xs.getD (lastI xs).toNat 0 = lbI xs := by unfold lbI; rw [hh]; rfl
    rw [e]
    by_cases hc : lbI xs < c
    · rw [decide_eq_true hc, decide_eq_false (show ¬ c ≤ lbI xs by omega)]; rfl
    · rw [decide_eq_false hc, decide_eq_true (show c ≤ lbI xs by omega)]; rfl
theorem low_bid {xs : List Int} {c : Int} (h : lwI xs c = true) : isBid c = true ∧ hasB xs = true := by
  unfold lwI at h
  simp only [Bool.and_eq_true] at h
  exact ⟨h.1, h.2.1⟩
theorem GI.pass {d : Int} {xs : List Int} (h : GI d xs) (ho : ovI d xs = false) : frI d xs 0 = true := by
  rw [h.fr]; exact decide_eq_true (chk0 (by rw [← h.ov]; exact ho))
theorem GI.free {d : Int} {xs : List Int} (h : GI d xs) {c : Int} (hf : frI d xs c = true) : ovI d xs = false ∧ c ≤ 37 := by
  rw [h.fr] at hf
  obtain ⟨h1, h2⟩ := chk_open (of_decide_eq_true hf)
  exact ⟨by rw [h.ov]; exact h1, h2⟩
theorem GI.nil {d : Int} (hd : 0 ≤ d ∧ d ≤ 3) : GI d [] := by
  have e : rcD d [] = d := by
    have : rcD d [] = mkI d ((0 : Nat) : Int) := rfl
    rw [this, mk_is hd (by omega)]; omega
  have ef : fol (rcD d []) (rcL []) = ⟨st0 d, st0 d, -1, 0⟩ := by rw [e]; exact fol_nil hd.2
  have et : Tt d [] = st0 d := by unfold Tt; rw [ef]
  refine ⟨hd, by rw [ef], by rw [et]; exact gS0 (by omega), by rw [et]; rfl, by rw [et]; rfl, ?_, by rw [et]; exact ⟨by show (0 : Int) ≤ 0; omega, by show (0 : Int) ≤ 4; omega⟩, fun c hc => by cases hc⟩
  rw [et]; show d = (d + (0 : Nat)) % 4; omega
theorem passes_aft {s : St} {c : Int} (hp : 0 ≤ s.passes ∧ s.passes ≤ 4) (ho : ovr s = false) (hc : 0 ≤ c) : 0 ≤ (aft s c).passes ∧ (aft s c).passes ≤ 4 := by
  have h3 : s.passes ≤ 3 := by
    unfold ovr at ho
    cases hm : s.b.m with
    | true => rw [hm] at ho; simp only [cond_true, decide_eq_false_iff_not] at ho; omega
    | false => rw [hm] at ho; simp only [cond_false, decide_eq_false_iff_not] at ho; omega
  have h4 : c = 0 ∨ (c = 1 ∨ c = 2) ∨ 3 ≤ c := by omega
  rcases h4 with rfl | h4 | h4
  · rw [aft_pass]
    show 0 ≤ wr .i64 _ ∧ wr .i64 _ ≤ 4
    rw [wr64 (by omega) (by omega)]; omega
  · rw [aft_dbl h4]; exact ⟨by show (0 : Int) ≤ 0; omega, by show (0 : Int) ≤ 4; omega⟩
  · rw [(aft_b h4).2.2]; omega
theorem GI.snoc {d : Int} {xs : List Int} (h : GI d xs) (hl : xs.length ≤ 999999) {c : Int} (hc : 0 ≤ c ∧ c ≤ 37) (ho : ovI d xs = false) (hf : isBid c = true ∨ frI d xs c = true) : GI d (xs ++ [c]) ∧
    Tt d (xs ++ [c]) = bif isBid c then aft (st0 ((d + xs.length) % 4)) c else aft (Tt d xs) c := by
  have hk : ∀ x ∈ xs ++ [c], 0 ≤ x ∧ x ≤ 37 := fun x hx => by
    rcases List.mem_append.1 hx with hx | hx
    · exact h.k x hx
    · rw [List.mem_singleton] at hx; subst hx; exact hc
  have hokC : okC c = true := by simp only [okC, Bool.and_eq_true, decide_eq_true_eq]; exact hc
  have htl : ((d + xs.length) % 4 + 1) % 4 = (d + (xs ++ [c]).length) % 4 := by rw [List.length_append, List.length_singleton]; push_cast; omega
  cases hb : isBid c with
  | true =>
    have ed : rcD d (xs ++ [c]) = (d + xs.length) % 4 := by rw [rcD_snoc, hb]; exact mk_is h.dd (by omega)
    have hs : chk (st0 ((d + xs.length) % 4)) c = 0 := by
      rw [chk_bid rfl hb]
      have := bid3 hb
      show (bif decide ((0 : Int) < c) then (0 : Int) else 2) = 0
      rw [decide_eq_true (by omega)]; rfl
    have ef : fol (rcD d (xs ++ [c])) (rcL (xs ++ [c])) = ⟨aft (st0 ((d + xs.length) % 4)) c, aft (st0 ((d + xs.length) % 4)) c, -1, 0⟩ := by
      rw [ed, rcL_snoc, hb]
      have h0 : (fol ((d + xs.length) % 4) []).e = 0 := by rw [fol_nil (by omega)]
      have h1 : (fol ((d + xs.length) % 4) []).s = st0 ((d + xs.length) % 4) := by rw [fol_nil (by omega)]
      show fol ((d + xs.length) % 4) ([] ++ [c]) = _
      rw [fol_snoc h0, h1, hs]; rfl
    have et : Tt d (xs ++ [c]) = aft (st0 ((d + xs.length) % 4)) c := by unfold Tt; rw [ef]
    have g0 : gS (st0 ((d + xs.length) % 4)) := gS0 (by omega)
    obtain ⟨b1, b2, b3⟩ := aft_bc (s := st0 ((d + xs.length) % 4)) hb
    refine ⟨⟨h.dd, by rw [ef], by rw [et]; exact gS_aft g0 hokC, by rw [et, b2, hasB_snoc, hb]; rfl, by rw [et, b1, lbI_snoc, hb]; rfl, ?_, by rw [et, b3]; omega, hk⟩, et⟩
    rw [et, aft_turn, nx_is g0.1, ← htl]; rfl
  | false =>
    have hf : frI d xs c = true := by rcases hf with hf | hf; · rw [hb] at hf; cases hf
                                      · exact hf
    rw [h.fr] at hf
    have hf := of_decide_eq_true hf
    have ef : fol (rcD d (xs ++ [c])) (rcL (xs ++ [c])) = ⟨aft (Tt d xs) c, aft (Tt d xs) c, -1, 0⟩ := by
      rw [rcD_snoc, rcL_snoc, hb]
      show fol (rcD d xs) (rcL xs ++ [c]) = _
      rw [fol_snoc h.e]
      show (bif decide (chk (Tt d xs) c = 0) then _ else _) = _
      rw [hf]; rfl
    have et : Tt d (xs ++ [c]) = aft (Tt d xs) c := by unfold Tt; rw [ef]; rfl
    have hn3 : c = 0 ∨ (c = 1 ∨ c = 2) := by
      have : ¬ 3 ≤ c := fun h3 => by
        have : isBid c = true := by simp only [isBid, Bool.and_eq_true, decide_eq_true_eq]; exact ⟨h3, hc.2⟩
        rw [hb] at this; cases this
      omega
    have ekeep : (aft (Tt d xs) c).b = (Tt d xs).b := by
      rcases hn3 with rfl | hn3
      · rw [aft_pass]; rfl
      · rw [aft_dbl hn3]; rfl
    refine ⟨⟨h.dd, by rw [ef], by rw [et]; exact gS_aft h.g hokC, by rw [et, ekeep, h.m, hasB_snoc, hb]; rfl, by rw [et, ekeep, h.c, lbI_snoc, hb]; rfl, ?_, by rw [et]; exact passes_aft h.p (by rw [← h.ov]; exact ho) hc.1, hk⟩, et⟩
    rw [et, aft_turn, nx_is h.g.1, h.t, ← htl]
inductive GC (d : Int) : List Int → List Int → Prop
  | nil : GC d [] []
  | free {xs ac : List Int} {c : Int} : GC d xs ac → ovI d xs = false → lwI xs c = false → frI d xs c = true → 0 ≤ c → GC d (xs ++ [c]) ac
  | low {xs ac : List Int} {c : Int} : GC d xs ac → ovI d xs = false → lwI xs c = true → GC d (xs ++ [c]) (ac ++ [(xs.length : Int)])
theorem GC.gi {d : Int} (hd : 0 ≤ d ∧ d ≤ 3) {xs ac : List Int} (h : GC d xs ac) : xs.length ≤ 1000000 → GI d xs := by
  induction h with
  | nil => exact fun _ => .nil hd
  | free h1 h2 h3 h4 h5 ih =>
    intro hl
    rw [List.length_append, List.length_singleton] at hl
    have g := ih (by omega)
    exact (g.snoc (by omega) ⟨h5, (g.free h4).2⟩ h2 (.inr h4)).1
  | low h1 h2 h3 ih =>
    intro hl
    rw [List.length_append, List.length_singleton] at hl
    have hb := low_bid h3
    have := bid3 hb.1
    exact ((ih (by omega)).snoc (by omega) (by omega) h2 (.inl hb.1)).1
theorem rtF_app (d : Int) (p : List Int) (c : Int) (ac : List Int) : ∀ (r : List Int) (i m : Nat), i + r.length = p.length →
    rtF d (p ++ [c]) ac (r ++ [c]) i m = bif (rtF d p ac r i m).1 then rtF d (p ++ [c]) ac [c] p.length (rtF d p ac r i m).2 else rtF d p ac r i m
  | [], i, m, h => by simp only [List.length_nil] at h; rw [show i = p.length by omega]; rfl
  | x :: r, i, m, h => by
    simp only [List.length_cons] at h
    have ht : (p ++ [c]).take i = p.take i := by rw [List.take_append_of_le_length (by omega)]
    show rtF d (p ++ [c]) ac (x :: (r ++ [c])) i m = _
    rw [rtF, rtF, ht]
    cases ovI d (p.take i) with
    | true => rfl
    | false =>
      simp only [cond_false]
      cases (decide (m < ac.length) && decide (ac.getD m 0 = (i : Int))) with
      | true =>
        simp only [cond_true]
        cases lwI (p.take i) x with
        | true => exact rtF_app d p c ac r (i + 1) (m + 1) (by omega)
        | false => rfl
      | false =>
        simp only [cond_false]
        cases lwI (p.take i) x with
        | true => rfl
        | false =>
          simp only [cond_false]
          cases frI d (p.take i) x with
          | true => exact rtF_app d p c ac r (i + 1) m (by omega)
          | false => rfl
theorem rtF_snoc (d : Int) (p : List Int) (c : Int) (ac : List Int) : rtF d (p ++ [c]) ac (p ++ [c]) 0 0 = bif (rtF d p ac p 0 0).1 then (bif ovI d p then (false, (rtF d p ac p 0 0).2) else
    bif decide ((rtF d p ac p 0 0).2 < ac.length) && decide (ac.getD (rtF d p ac p 0 0).2 0 = (p.length : Int)) then (bif lwI p c then (true, (rtF d p ac p 0 0).2 + 1) else (false, (rtF d p ac p 0 0).2)) else
      bif lwI p c then (false, (rtF d p ac p 0 0).2) else bif frI d p c then (true, (rtF d p ac p 0 0).2) else (false, (rtF d p ac p 0 0).2)) else rtF d p ac p 0 0 := by
  rw [rtF_app d p c ac p 0 0 (by omega)]
  congr 1
  rw [rtF, List.take_left']
  · rfl
  · rfl
theorem GC.right {d : Int} {xs ac : List Int} (h : GC d xs ac) : ∀ rest : List Int, (∀ z, rest.head? = some z → (xs.length : Int) ≤ z) → rtF d xs (ac ++ rest) xs 0 0 = (true, ac.length) := by
  induction h with
  | nil => exact fun _ _ => rfl
  | @free xs ac c h1 h2 h3 h4 h5 ih =>
    intro rest hr
    have i1 := ih rest (fun z hz => by have := hr z hz; rw [List.length_append, List.length_singleton] at this; push_cast at this; omega)
    rw [rtF_snoc, i1]
    simp only [cond_true, h2, cond_false]
    have e : (decide (ac.length < (ac ++ rest).length) && decide ((ac ++ rest).getD ac.length 0 = (xs.length : Int))) = false := by
      cases rest with
      | nil => simp
      | cons z q =>
        have := hr z rfl
        rw [List.length_append, List.length_singleton] at this
        push_cast at this
        have e2 : (ac ++ z :: q).getD ac.length 0 = z := by simp [List.getD_eq_getElem?_getD]
        rw [e2, decide_eq_false (show ¬ z = (xs.length : Int) by omega), Bool.and_false]
    rw [e, h3, h4]; rfl
  | @low xs ac c h1 h2 h3 ih =>
    intro rest hr
    have i1 := ih ((xs.length : Int) :: rest) (fun z hz => by simp only [List.head?_cons, Option.some.injEq] at hz; omega)
    rw [List.append_assoc]
    show rtF d (xs ++ [c]) (ac ++ ((xs.length : Int) :: rest)) (xs ++ [c]) 0 0 = _
    rw [rtF_snoc, i1]
    simp only [cond_true, h2, cond_false]
    have e : (decide (ac.length < (ac ++ (xs.length : Int) :: rest).length) && decide ((ac ++ (xs.length : Int) :: rest).getD ac.length 0 = (xs.length : Int))) = true := by
      simp [List.getD_eq_getElem?_getD]
    rw [e, h3]
    simp
theorem GC.of {d : Int} {ac : List Int} : ∀ (n : Nat) (xs : List Int), xs.length = n → (∀ c ∈ xs, 0 ≤ c) → (rtF d xs ac xs 0 0).1 = true → (rtF d xs ac xs 0 0).2 ≤ ac.length ∧ GC d xs (ac.take (rtF d xs ac xs 0 0).2) := by
  intro n
  induction n with
  | zero =>
    intro xs hn _ _
    obtain rfl := List.eq_nil_of_length_eq_zero hn
    exact ⟨Nat.zero_le _, .nil⟩
  | succ n ih =>
    intro xs hn hp h
    obtain ⟨q, c, rfl⟩ : ∃ q c, xs = q ++ [c] := ⟨xs.dropLast, xs.getLast (by intro e; rw [e] at hn; cases hn), (List.dropLast_concat_getLast _).symm⟩
    have hq : q.length = n := by simpa using hn
    have hpq : ∀ c ∈ q, 0 ≤ c := fun x hx => hp x (List.mem_append_left _ hx)
    rw [rtF_snoc] at h ⊢
    cases h1 : (rtF d q ac q 0 0).1 with
    | false => rw [h1, cond_false] at h; rw [h1] at h; cases h
    | true =>
      obtain ⟨k1, k2⟩ := ih q hq hpq h1
      rw [h1, cond_true] at h
      simp only [cond_true]
      generalize (rtF d q ac q 0 0).2 = m at *
      cases h2 : ovI d q with
      | true => rw [h2] at h; cases h
      | false =>
        rw [h2, cond_false] at h
        simp only [cond_false]
        cases h3 : (decide (m < ac.length) && decide (ac.getD m 0 = (q.length : Int))) with
        | true =>
          rw [h3, cond_true] at h
          simp only [cond_true]
          simp only [Bool.and_eq_true, decide_eq_true_eq] at h3
          cases h4 : lwI q c with
          | false => rw [h4] at h; cases h
          | true =>
            refine ⟨h3.1, ?_⟩
            show GC d (q ++ [c]) (ac.take (m + 1))
            rw [take_snoc h3.1, h3.2]
            exact .low k2 h2 h4
        | false =>
          rw [h3, cond_false] at h
          simp only [cond_false]
          cases h4 : lwI q c with
          | true => rw [h4] at h; cases h
          | false =>
            rw [h4, cond_false] at h
            simp only [cond_false]
            cases h5 : frI d q c with
            | false => rw [h5] at h; cases h
            | true => exact ⟨k1, .free k2 h2 h4 h5 (hp c (by simp))⟩
end Go.Proofs.YtojlmpcbplepcaaGreat
