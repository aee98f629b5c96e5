/- Chapter 10: Right: its loop. -/
import Derived.Test.YtojlmpcbplepcaaCrs
namespace Go.Proofs.Ytojlmpcbplepcaa
open Go Go.Eng
def riOut (r : Bool) (m : Int) (xs ac : List Int) (s : CD) : List PV := .b r :: .i m :: .l xs :: .l ac :: s.pv []
def riIn (r : Bool) (m n i : Int) (xs ac : List Int) (s : CD) : List PV := .b r :: .i m :: .i n :: .i i :: .l xs :: .l ac :: s.pv []
abbrev RR := Option (XE × List PV × List (Code × Code))
noncomputable def riE (N : NJ) (d i c : Int) (xs : List Int) (acc : Bool) (F A B : RR) : RR :=
  bif decide (0 + (i.toNat - 0) ≤ xs.length) then bif N.OK (List.take (i.toNat - 0) xs) then bif N.OV d (List.take (i.toNat - 0) xs) then F else
    bif decide (0 + (i.toNat - 0) ≤ xs.length) then bif N.OK (List.take (i.toNat - 0) xs) then bif !(bif N.LW (List.take (i.toNat - 0) xs) c then acc else !acc) then F else bif acc then A else
      bif decide (0 + (i.toNat - 0) ≤ xs.length) then bif N.OK (List.take (i.toNat - 0) xs) && N.BY c then bif !N.FR d (List.take (i.toNat - 0) xs) c then F else B else none else none else none else none else none else none
theorem ri_round (N : NJ) (n1 n2 : Bool) (rd : Option Nat) (r : Bool) (m n i : Int) (xs ac : List Int) (s : CD) : roundT Try.prog (orcJ N emptyTab plainL) noLoops 100 2 rd 17 riLp (riT n1 n2) (riX n1 n2) (riIn r m n i xs ac s) =
    bif decide (i < n) then bif decide (0 ≤ i ∧ i < Int.ofNat xs.length) then atN xs i.toNat fun c => bif decide ((0 : Int) ≤ 0 ∧ 0 ≤ i ∧ i ≤ Int.ofNat xs.length) then
      bif decide (m < Int.ofNat ac.length) then bif decide (0 ≤ m ∧ m < Int.ofNat ac.length) then atN ac m.toNat fun v =>
        riE N s.d i c xs (decide (v = i)) (some (.ret, riOut false m xs ac s, [])) (some (.normal, riIn r (wr .i64 (m + 1)) n (wr .i64 (i + 1)) xs ac s, [])) (some (.normal, riIn r m n (wr .i64 (i + 1)) xs ac s, [])) else none else
        riE N s.d i c xs false (some (.ret, riOut false m xs ac s, [])) (some (.normal, riIn r (wr .i64 (m + 1)) n (wr .i64 (i + 1)) xs ac s, [])) (some (.normal, riIn r m n (wr .i64 (i + 1)) xs ac s, [])) else none else none else
      some (.exit 2, riOut r m xs ac s, []) := by cases n1 <;> cases n2 <;> kernel_rfl
/-- The loop, plainly: whether all calls pass, and how many accepted ones were met. -/
def rtF (d : Int) (xs ac : List Int) : List Int → Nat → Nat → Bool × Nat
  | [], _, m => (true, m)
  | c :: r, i, m => bif ovI d (xs.take i) then (false, m) else
    bif decide (m < ac.length) && decide (ac.getD m 0 = (i : Int)) then (bif lwI (xs.take i) c then rtF d xs ac r (i + 1) (m + 1) else (false, m)) else
      bif lwI (xs.take i) c then (false, m) else bif frI d (xs.take i) c then rtF d xs ac r (i + 1) m else (false, m)
theorem okL_take {xs : List Int} (h : okL xs = true) (n : Nat) : okL (xs.take n) = true := by
  obtain ⟨h1, h2⟩ := okL_iff.1 h
  refine okL_iff.2 ⟨by rw [List.length_take]; omega, ?_⟩
  rw [allU_iff] at h2 ⊢
  exact fun x hx => h2 x (List.mem_of_mem_take hx)
theorem byB_of {xs : List Int} (h : okL xs = true) {i : Nat} (hi : i < xs.length) : byB (xs.getD i 0) = true := by
  have := allU_get (okL_iff.1 h).2 hi
  rw [List.getD_eq_getElem?_getD, List.getElem?_eq_getElem hi]
  exact decide_eq_true this
theorem riE_is {d c : Int} {i : Nat} {xs : List Int} {acc : Bool} {F A B : RR} (h : okL xs = true) (hi : i < xs.length) (hc : byB c = true) :
    riE nJ d i c xs acc F A B = bif ovI d (xs.take i) then F else bif acc then (bif lwI (xs.take i) c then A else F) else bif lwI (xs.take i) c then F else bif frI d (xs.take i) c then B else F := by
  unfold riE
  rw [show ((i : Nat) : Int).toNat - 0 = i by omega, decide_eq_true (show 0 + i ≤ xs.length by omega), show nJ.OK (xs.take i) = true from okL_take h i, show nJ.BY c = true from hc]
  show (bif ovI d (xs.take i) then F else bif !(bif lwI (xs.take i) c then acc else !acc) then F else bif acc then A else bif !frI d (xs.take i) c then F else B) = _
  cases ovI d (xs.take i) <;> cases acc <;> cases lwI (xs.take i) c <;> cases frI d (xs.take i) c <;> rfl
def riFin (xs ac : List Int) (s : CD) (q : Bool × Nat) : XE × List PV := (bif q.1 then .exit 2 else .ret, riOut false q.2 xs ac s)
theorem ri_loop (n1 n2 : Bool) (rd : Option Nat) (xs ac : List Int) (s : CD) (h : okL xs = true) : ∀ x : Nat × Nat, (x.1 ≤ xs.length ∧ x.2 ≤ x.1) →
    SimC Try.prog 2 rd (.loop riLp) ((riT n1 n2).at (riIn false x.2 (xs.length : Int) x.1 xs ac s)) (riFin xs ac s (rtF s.d xs ac (xs.drop x.1) x.1 x.2)).1 ((riX n1 n2).at (riFin xs ac s (rtF s.d xs ac (xs.drop x.1) x.1 x.2)).2) := by
  refine loop_of_rounds (C := orcJ nJ emptyTab plainL) (L := noLoops) (N := 100) (me := 17) (T := riT n1 n2) (T' := riX n1 n2) (orcJ_ok emptyTab_ok plainL_ok) mixed noLoops_ok (by cases n1 <;> cases n2 <;> kernel_rfl) (by cases n1 <;> cases n2 <;> kernel_rfl) (X := Nat × Nat)
    (fun x => riIn false x.2 (xs.length : Int) x.1 xs ac s) (fun x => x.1 ≤ xs.length ∧ x.2 ≤ x.1) (fun x => xs.length - x.1) (fun x => riFin xs ac s (rtF s.d xs ac (xs.drop x.1) x.1 x.2)) ?_
  rintro ⟨i, m⟩ ⟨hi, hm⟩
  dsimp only at hi hm ⊢
  have hl := (okL_iff.1 h).1
  have key := ri_round nJ n1 n2 rd false (m : Int) (xs.length : Int) (i : Int) xs ac s
  have z1 : Int.ofNat xs.length = (xs.length : Int) := rfl
  have z2 : Int.ofNat ac.length = (ac.length : Int) := rfl
  rcases Nat.lt_or_ge i xs.length with hlt | hge
  · have hg : xs.getD i 0 = xs[i] := by rw [List.getD_eq_getElem?_getD, List.getElem?_eq_getElem hlt]; rfl
    rw [z1, z2, decide_eq_true (show (i : Int) < (xs.length : Int) by omega), cond_true, decide_eq_true (show 0 ≤ (i : Int) ∧ (i : Int) < (xs.length : Int) by omega), cond_true, show ((i : Int)).toNat = i from rfl, atN_get hlt,
      decide_eq_true (show (0 : Int) ≤ 0 ∧ 0 ≤ (i : Int) ∧ (i : Int) ≤ (xs.length : Int) by omega), cond_true, wr64 (n := (m : Int) + 1) (by omega) (by omega), wr64 (n := (i : Int) + 1) (by omega) (by omega),
      riE_is h hlt (byB_of h hlt), show ((m : Int)).toNat = m from rfl] at key
    rw [List.drop_eq_getElem_cons hlt, ← hg]
    have fin : ∀ acc : Bool, acc = (decide (m < ac.length) && decide (ac.getD m 0 = (i : Int))) →
        roundT Try.prog (orcJ nJ emptyTab plainL) noLoops 100 2 rd 17 riLp (riT n1 n2) (riX n1 n2) (riIn false m (xs.length : Int) i xs ac s) = (bif ovI s.d (xs.take i) then some (.ret, riOut false m xs ac s, []) else bif acc then (bif lwI (xs.take i) (xs.getD i 0) then some (.normal, riIn false ((m : Int) + 1) (xs.length : Int) ((i : Int) + 1) xs ac s, []) else some (.ret, riOut false m xs ac s, [])) else bif lwI (xs.take i) (xs.getD i 0) then some (.ret, riOut false m xs ac s, []) else bif frI s.d (xs.take i) (xs.getD i 0) then some (.normal, riIn false m (xs.length : Int) ((i : Int) + 1) xs ac s, []) else some (.ret, riOut false m xs ac s, [])) →
        ∃ e qs l, roundT Try.prog (orcJ nJ emptyTab plainL) noLoops 100 2 rd 17 riLp (riT n1 n2) (riX n1 n2) (riIn false m (xs.length : Int) i xs ac s) = some (e, qs, l) ∧ codesOk l ∧
          ((e = .normal ∧ ∃ y : Nat × Nat, qs = riIn false y.2 (xs.length : Int) y.1 xs ac s ∧ (y.1 ≤ xs.length ∧ y.2 ≤ y.1) ∧ xs.length - y.1 < xs.length - i ∧ riFin xs ac s (rtF s.d xs ac (xs.drop y.1) y.1 y.2) = riFin xs ac s (rtF s.d xs ac (xs.getD i 0 :: xs.drop (i + 1)) i m)) ∨ (e ≠ .normal ∧ (e, qs) = riFin xs ac s (rtF s.d xs ac (xs.getD i 0 :: xs.drop (i + 1)) i m))) := by
      intro acc ha hk
      have step : ∀ m2 : Nat, ((m : Int) + 1 = ((m + 1 : Nat) : Int)) := fun _ => by omega
      have e1 : ((m : Int) + 1) = ((m + 1 : Nat) : Int) := by omega
      have e2 : ((i : Int) + 1) = ((i + 1 : Nat) : Int) := by omega
      rw [e1, e2] at hk
      simp only [rtF]
      rw [← ha]
      cases h1 : ovI s.d (xs.take i) with
      | true => rw [h1, cond_true] at hk; exact ⟨_, _, _, hk, codes0, .inr ⟨by simp, rfl⟩⟩
      | false =>
        rw [h1, cond_false] at hk
        cases h2 : acc with
        | true =>
          rw [h2, cond_true] at hk
          cases h3 : lwI (xs.take i) (xs.getD i 0) with
          | true => rw [h3, cond_true] at hk; exact ⟨_, _, _, hk, codes0, .inl ⟨rfl, (i + 1, m + 1), rfl, ⟨by dsimp only; omega, by dsimp only; omega⟩, by dsimp only; omega, rfl⟩⟩
          | false => rw [h3, cond_false] at hk; exact ⟨_, _, _, hk, codes0, .inr ⟨by simp, rfl⟩⟩
        | false =>
          rw [h2, cond_false] at hk
          cases h3 : lwI (xs.take i) (xs.getD i 0) with
          | true => rw [h3, cond_true] at hk; exact ⟨_, _, _, hk, codes0, .inr ⟨by simp, rfl⟩⟩
          | false =>
            rw [h3, cond_false] at hk
            cases h4 : frI s.d (xs.take i) (xs.getD i 0) with
            | true => rw [h4, cond_true] at hk; exact ⟨_, _, _, hk, codes0, .inl ⟨rfl, (i + 1, m), rfl, ⟨by dsimp only; omega, by dsimp only; omega⟩, by dsimp only; omega, rfl⟩⟩
            | false => rw [h4, cond_false] at hk; exact ⟨_, _, _, hk, codes0, .inr ⟨by simp, rfl⟩⟩
    rcases Nat.lt_or_ge m ac.length with hm2 | hm2
    · rw [decide_eq_true (show (m : Int) < (ac.length : Int) by omega), cond_true, decide_eq_true (show 0 ≤ (m : Int) ∧ (m : Int) < (ac.length : Int) by omega), cond_true, atN_get hm2, riE_is h hlt (byB_of h hlt)] at key
      exact fin (decide (ac.getD m 0 = (i : Int))) (by rw [decide_eq_true hm2, Bool.true_and]) key
    · rw [decide_eq_false (show ¬ (m : Int) < (ac.length : Int) by omega), cond_false] at key
      exact fin false (by rw [decide_eq_false (show ¬ m < ac.length by omega), Bool.false_and]) key
  · rw [decide_eq_false (show ¬ (i : Int) < (xs.length : Int) by omega), cond_false] at key
    refine ⟨_, _, _, key, codes0, .inr ⟨by simp, ?_⟩⟩
    rw [List.drop_eq_nil_of_le (by omega)]; rfl
end Go.Proofs.Ytojlmpcbplepcaa
