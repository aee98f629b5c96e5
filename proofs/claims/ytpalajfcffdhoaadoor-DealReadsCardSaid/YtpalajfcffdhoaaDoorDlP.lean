/- Chapter 6: the deal that numbers make: its loops, its contract. -/
import Derived.Test.YtpalajfcffdhoaaDoorDlT
namespace Go.Proofs.YtpalajfcffdhoaaDoor
open Go Go.Eng Go.Deal
theorem codesNil : codesOk [] := fun x h => by cases h
theorem orcZ_ok : OracleOk Tryd.prog orcZ := orcN_ok emptyTab_ok plainL_ok
def okV (ls : List Int) : Prop := ∀ v ∈ ls, 0 ≤ v ∧ v < 256
theorem atL_at {α : Type} {l : List Int} {i : Nat} (h : i < l.length) (K : Int → Option α) : atL l i K = K l[i] := by
  unfold atL; rw [List.getElem?_eq_getElem h]
theorem dl_loop2 (nn : Bool) (rd : Option Nat) (ls : List Int) (hv : okV ls) (ln : Nat) (hl : ln = min ls.length 52) : ∀ x : Nat × List Int, (x.1 ≤ ln ∧ x.2.length = 52) →
    SimC Tryd.prog 1 rd (.loop dlLp2) ((dlT2 nn).at [.n 0, .n ln, .i (ln : Int), .i (x.1 : Int), .l ls, .l x.2]) (.exit 2) ((dlX2 nn).at [.l ls, .l (dl x.1 (ls.drop x.1) x.2)]) := by
  refine loop_of_rounds (C := orcZ) (L := noLoops) (N := 100) (me := 27) (T := dlT2 nn) (T' := dlX2 nn) orcZ_ok mixed noLoops_ok (by cases nn <;> kernel_rfl) (by cases nn <;> kernel_rfl) (X := Nat × List Int)
    (fun x => [.n 0, .n ln, .i (ln : Int), .i (x.1 : Int), .l ls, .l x.2]) (fun x => x.1 ≤ ln ∧ x.2.length = 52) (fun x => ln - x.1) (fun x => (.exit 2, [.l ls, .l (dl x.1 (ls.drop x.1) x.2)])) ?_
  rintro ⟨i, xs⟩ ⟨hi, hx⟩
  dsimp only at hi hx ⊢
  have h := dl_round2 nn rd ln (ln : Int) (i : Int) ls xs
  unfold dlR2 at h
  by_cases hlt : i < ln
  · have hil : i < ls.length := by omega
    have hvi := hv ls[i] (List.getElem_mem hil)
    obtain ⟨v, hvv⟩ : ∃ v : Nat, ls[i] = (v : Int) := ⟨ls[i].toNat, by omega⟩
    have hmod : v % (52 - i) < 52 - i := Nat.mod_lt _ (by omega)
    have hJ : dlJ (i : Int) (v : Int) = ((i + v % (52 - i) : Nat) : Int) := by
      unfold dlJ
      rw [wr64 (x := 52 - (i : Int)) (by omega) (by omega), wr64 (x := (v : Int)) (by omega) (by omega), show (52 : Int) - (i : Int) = ((52 - i : Nat) : Int) by omega,
        Int.tmod_eq_emod_of_nonneg (by omega), show (v : Int) % ((52 - i : Nat) : Int) = ((v % (52 - i) : Nat) : Int) by omega, wr64 (by omega) (by omega)]
      omega
    rw [decide_eq_true (show (i : Int) < (ln : Int) by omega), cond_true, decide_eq_true (show 0 ≤ (i : Int) ∧ (i : Int) < Int.ofNat ln ∧ 0 + ln ≤ ls.length from ⟨by omega, by show (i : Int) < (ln : Int); omega, by omega⟩), cond_true, Int.toNat_natCast, atL_at hil, hvv,
      decide_eq_false (show ¬ wr .i64 (52 - (i : Int)) = 0 by rw [wr64 (by omega) (by omega)]; omega), cond_false, hJ] at h
    generalize hj : i + v % (52 - i) = j at *
    have hj52 : j < 52 := by omega
    rw [decide_eq_true (show 0 ≤ (j : Int) ∧ (j : Int) < 52 by omega), cond_true, Int.toNat_natCast, atL_at (by omega), decide_eq_true (show 0 ≤ (i : Int) ∧ (i : Int) < 52 by omega), cond_true, atL_at (by omega), cond_true,
      decide_eq_true (show i < xs.length by omega), cond_true, cond_true, decide_eq_true (show j < (xs.set i xs[j]).length by rw [List.length_set]; omega), cond_true, wr64 (by omega) (by omega)] at h
    have hs : (xs.set i xs[j]).set j xs[i] = swp xs i j := by
      unfold swp
      have e1 : xs.getD j 0 = xs[j] := by simp [show j < xs.length by omega]
      have e2 : xs.getD i 0 = xs[i] := by simp [show i < xs.length by omega]
      rw [e1, e2]
    rw [hs] at h
    refine ⟨_, _, _, h, codesNil, .inl ⟨rfl, (i + 1, swp xs i j), rfl, ⟨by dsimp only; omega, by rw [swp_len]; exact hx⟩, by dsimp only; omega, ?_⟩⟩
    dsimp only
    rw [List.drop_eq_getElem_cons hil, hvv]
    simp only [dl]
    rw [if_pos (show i < 52 by omega), Int.toNat_natCast, hj]
  · rw [decide_eq_false (show ¬ (i : Int) < (ln : Int) by omega), cond_false] at h
    refine ⟨_, _, _, h, codesNil, .inr ⟨(fun h => by cases h), ?_⟩⟩
    have : dl i (ls.drop i) xs = xs := by
      rcases Nat.lt_or_ge i ls.length with h' | h'
      · rw [List.drop_eq_getElem_cons h']
        simp only [dl]
        rw [if_neg (by omega)]
      · rw [List.drop_eq_nil_of_le h']; rfl
    rw [this]
structure H4 where
  a : Nat
  b : Nat
  c : Nat
  d : Nat
def d3U (f : Nat → Int) (i : Nat) (q : H4) : H4 := if i / 13 = 0 then { q with a := q.a ||| 2 ^ (f i).toNat } else if i / 13 = 1 then { q with b := q.b ||| 2 ^ (f i).toNat } else if i / 13 = 2 then { q with c := q.c ||| 2 ^ (f i).toNat } else { q with d := q.d ||| 2 ^ (f i).toNat }
def d3F (f : Nat → Int) : Nat → Nat → H4 → H4
  | 0, _, q => q
  | n + 1, i, q => d3F f n (i + 1) (d3U f i q)
def okQ (q : H4) : Prop := q.a < 2 ^ 52 ∧ q.b < 2 ^ 52 ∧ q.c < 2 ^ 52 ∧ q.d < 2 ^ 52
theorem lstF_get (f : Nat → Int) : ∀ i, i < 52 → (lstF f).getD i 0 = f i := by
  intro i hi
  have : (lstF f).getD i 0 = ((List.range 52).map f).getD i 0 := rfl
  rw [this]
  simp [hi]
theorem d3_loop (nn : Bool) (rd : Option Nat) (f : Nat → Int) (hf : ∀ j, j < 52 → 0 ≤ f j ∧ f j < 52) (ls xs : List Int) : ∀ x : Nat × H4, (x.1 ≤ 52 ∧ okQ x.2) →
    SimC Tryd.prog 1 rd (.loop dlLp3) ((d3T nn).at (lstP f [.i (x.1 : Int), .l ls, .l xs, .i (x.2.a : Int), .i (x.2.b : Int), .i (x.2.c : Int), .i (x.2.d : Int)])) (.exit 4)
      ((d3X nn).at [.l ls, .l xs, .i ((d3F f (52 - x.1) x.1 x.2).a : Int), .i ((d3F f (52 - x.1) x.1 x.2).b : Int), .i ((d3F f (52 - x.1) x.1 x.2).c : Int), .i ((d3F f (52 - x.1) x.1 x.2).d : Int)]) := by
  refine loop_of_rounds (C := orcZ) (L := noLoops) (N := 100) (me := 27) (T := d3T nn) (T' := d3X nn) orcZ_ok mixed noLoops_ok (by cases nn <;> kernel_rfl) (by cases nn <;> kernel_rfl) (X := Nat × H4)
    (fun x => lstP f [.i (x.1 : Int), .l ls, .l xs, .i (x.2.a : Int), .i (x.2.b : Int), .i (x.2.c : Int), .i (x.2.d : Int)]) (fun x => x.1 ≤ 52 ∧ okQ x.2) (fun x => 52 - x.1)
    (fun x => (.exit 4, [.l ls, .l xs, .i ((d3F f (52 - x.1) x.1 x.2).a : Int), .i ((d3F f (52 - x.1) x.1 x.2).b : Int), .i ((d3F f (52 - x.1) x.1 x.2).c : Int), .i ((d3F f (52 - x.1) x.1 x.2).d : Int)])) ?_
  rintro ⟨i, q⟩ ⟨hi, hq⟩
  dsimp only at hi hq ⊢
  have h := d3_round nn rd f ls xs (i : Int) (q.a : Int) (q.b : Int) (q.c : Int) (q.d : Int)
  by_cases hlt : i < 52
  · obtain ⟨c, hc⟩ : ∃ c : Nat, f i = (c : Int) := ⟨(f i).toNat, by have := hf i hlt; omega⟩
    have hc52 : c < 52 := by have := hf i hlt; omega
    rw [decide_eq_true (show (i : Int) < 52 by omega), cond_true, decide_eq_true (show 0 ≤ (i : Int) ∧ (i : Int) < 52 by omega), cond_true, Int.toNat_natCast, Nat.mul_one, lstF_get f i hlt, hc,
      show (i : Int).tdiv 13 = ((i / 13 : Nat) : Int) by rw [Int.tdiv_eq_ediv_of_nonneg (by omega)]; omega, wr64 (by omega) (by omega)] at h
    have hj : i / 13 < 4 := by omega
    have p64 : 2 ^ c < 18446744073709551616 := by have := p52 (p := c) (by omega); omega
    have key : ∀ {v : Nat}, v < 2 ^ 52 → orI (v : Int) (shlI (c : Int)) = ((v ||| 2 ^ c : Nat) : Int) := fun {v} hv => by
      rw [shlI_n (by omega)]; exact or_nat (lt64 hv) p64
    have e52 : 52 - i = (52 - (i + 1)) + 1 := by omega
    obtain ⟨qa, qb, qc, qd⟩ := hq
    have hU : d3F f (52 - i) i q = d3F f (52 - (i + 1)) (i + 1) (d3U f i q) := by rw [e52]; rfl
    have hfc : (f i).toNat = c := by rw [hc]; rfl
    unfold d3L d3C d3S d3N at h
    have hcase : i / 13 = 0 ∨ i / 13 = 1 ∨ i / 13 = 2 ∨ i / 13 = 3 := by omega
    rcases hcase with g | g | g | g
    · have hq' : d3U f i q = ⟨q.a ||| 2 ^ c, q.b, q.c, q.d⟩ := by unfold d3U; rw [if_pos g, hfc]
      rw [g, decide_eq_true (show ((0 : Nat) : Int) = 0 by decide), cond_true, decide_eq_false (show ¬ (c : Int) < 0 by omega), cond_false, cond_true, key qa, wr64 (by omega) (by omega)] at h
      refine ⟨_, _, _, h, codesNil, .inl ⟨rfl, (i + 1, ⟨q.a ||| 2 ^ c, q.b, q.c, q.d⟩), rfl, ⟨by dsimp only; omega, put_lt hc52 qa, qb, qc, qd⟩, by dsimp only; omega, ?_⟩⟩
      dsimp only; rw [hU, hq']
    · have hq' : d3U f i q = ⟨q.a, q.b ||| 2 ^ c, q.c, q.d⟩ := by unfold d3U; rw [if_neg (by omega), if_pos g, hfc]
      rw [g, decide_eq_false (show ¬ ((1 : Nat) : Int) = 0 by decide), decide_eq_true (show ((1 : Nat) : Int) = 1 by decide), cond_false, cond_true, decide_eq_false (show ¬ (c : Int) < 0 by omega), cond_false, cond_false, cond_true, key qb, wr64 (by omega) (by omega)] at h
      refine ⟨_, _, _, h, codesNil, .inl ⟨rfl, (i + 1, ⟨q.a, q.b ||| 2 ^ c, q.c, q.d⟩), rfl, ⟨by dsimp only; omega, qa, put_lt hc52 qb, qc, qd⟩, by dsimp only; omega, ?_⟩⟩
      dsimp only; rw [hU, hq']
    · have hq' : d3U f i q = ⟨q.a, q.b, q.c ||| 2 ^ c, q.d⟩ := by unfold d3U; rw [if_neg (by omega), if_neg (by omega), if_pos g, hfc]
      rw [g, decide_eq_false (show ¬ ((2 : Nat) : Int) = 0 by decide), decide_eq_false (show ¬ ((2 : Nat) : Int) = 1 by decide), decide_eq_true (show ((2 : Nat) : Int) = 2 by decide), cond_false, cond_false, cond_true, decide_eq_false (show ¬ (c : Int) < 0 by omega), cond_false, cond_false, cond_false, cond_true, key qc, wr64 (by omega) (by omega)] at h
      refine ⟨_, _, _, h, codesNil, .inl ⟨rfl, (i + 1, ⟨q.a, q.b, q.c ||| 2 ^ c, q.d⟩), rfl, ⟨by dsimp only; omega, qa, qb, put_lt hc52 qc, qd⟩, by dsimp only; omega, ?_⟩⟩
      dsimp only; rw [hU, hq']
    · have hq' : d3U f i q = ⟨q.a, q.b, q.c, q.d ||| 2 ^ c⟩ := by unfold d3U; rw [if_neg (by omega), if_neg (by omega), if_neg (by omega), hfc]
      rw [g, decide_eq_false (show ¬ ((3 : Nat) : Int) = 0 by decide), decide_eq_false (show ¬ ((3 : Nat) : Int) = 1 by decide), decide_eq_false (show ¬ ((3 : Nat) : Int) = 2 by decide), decide_eq_true (show ((3 : Nat) : Int) = 3 by decide), cond_false, cond_false, cond_false, cond_true, decide_eq_false (show ¬ (c : Int) < 0 by omega), cond_false, cond_false, cond_false, cond_false, cond_true, key qd, wr64 (by omega) (by omega)] at h
      refine ⟨_, _, _, h, codesNil, .inl ⟨rfl, (i + 1, ⟨q.a, q.b, q.c, q.d ||| 2 ^ c⟩), rfl, ⟨by dsimp only; omega, qa, qb, qc, put_lt hc52 qd⟩, by dsimp only; omega, ?_⟩⟩
      dsimp only; rw [hU, hq']
  · have : i = 52 := by omega
    subst this
    rw [decide_eq_false (show ¬ ((52 : Nat) : Int) < 52 by decide), cond_false] at h
    exact ⟨_, _, _, h, codesNil, .inr ⟨(fun h => by cases h), rfl⟩⟩
end Go.Proofs.YtpalajfcffdhoaaDoor
