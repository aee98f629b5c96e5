/- Texts merged: NaTr2, NaR1. -/
import Derived.Test.YtnbfnoomhlamnaaGreatNaNat2
import Derived.Test.YtnbfnoomhlamnaaGreatEng4
/- Chapter 2, the reference: trim, for every list. -/
namespace Go.Proofs.YtnbfnoomhlamnaaGreat.N2
open Go Go.Eng
theorem codesN : codesOk [] := fun _ h => by cases h
theorem lastI_eq {n : Nat} (h : n ≤ 9223372036854775807) (hp : 0 < n) : lastI n = ((n - 1 : Nat) : Int) := by
  unfold lastI
  rw [wr64 (by show -9223372036854775808 ≤ (n : Int) - 1; omega) (by show (n : Int) - 1 < _; omega)]
  show (n : Int) - 1 = _
  omega
theorem tz_take_zero {xs : List Int} {m : Nat} (h0 : xs[m]? = some 0) : tz (xs.take (m + 1)) = tz (xs.take m) := by
  rw [List.take_add_one, h0]
  exact tz_snoc_zero _
theorem tz_take_ne {xs : List Int} {m : Nat} {v : Int} (hv : xs[m]? = some v) (h0 : v ≠ 0) : tz (xs.take (m + 1)) = xs.take (m + 1) := by
  rw [List.take_add_one, hv]
  exact tz_snoc_ne h0 _
theorem get_lt {xs : List Int} {m : Nat} (h : m < xs.length) : ∃ v, xs[m]? = some v := ⟨xs[m], List.getElem?_eq_getElem h⟩
theorem ofN (n : Nat) : Int.ofNat n = (n : Int) := rfl
theorem tr_loop (nn : Bool) (rd : Option Nat) (xs : List Int) (hl : xs.length ≤ 9223372036854775807) : ∀ m : Nat, m ≤ xs.length →
    ∃ n, SimL Tryz.prog 1 rd trLp n ((trV nn).at [.n 0, .n m, .l xs]) (.exit 0) ((trV nn).at [.n 0, .n (tz (xs.take m)).length, .l xs]) := by
  refine loop_of_rounds_n (C := orcP tabA plainL) (L := noLoops) (N := 200) (me := 85) (T := trV nn) (T' := trV nn) (orcP_ok tabA_ok plainL_ok) mixed noLoops_ok (by cases nn <;> kernel_rfl) (by cases nn <;> kernel_rfl) (X := Nat)
    (fun m => [.n 0, .n m, .l xs]) (fun m => m ≤ xs.length) (fun m => m) (fun m => (.exit 0, [.n 0, .n (tz (xs.take m)).length, .l xs])) ?_
  intro m hm
  have h := tr_round nn rd m xs
  rcases Nat.eq_zero_or_pos m with rfl | hp
  · rw [decide_eq_false (by decide)] at h
    exact ⟨_, _, _, h, codesN, .inr ⟨by simp, by simp [tz]⟩⟩
  · obtain ⟨k, rfl⟩ : ∃ k, m = k + 1 := ⟨m - 1, by omega⟩
    obtain ⟨v, hv⟩ := get_lt (xs := xs) (m := k) (by omega)
    rw [lastI_eq (by omega) hp, ofN, decide_eq_true (by omega), decide_eq_true (by omega), show (((k + 1 - 1 : Nat) : Int)).toNat = k by omega, hv, cond_true, cond_true, oK_some] at h
    by_cases h0 : v = 0
    · subst h0
      rw [decide_eq_true rfl, cond_true, decide_eq_true (show 0 + (k + 1) ≤ xs.length by omega), decide_eq_true (show (0 : Int) ≤ 0 ∧ 0 ≤ ((k + 1 - 1 : Nat) : Int) ∧ ((k + 1 - 1 : Nat) : Int) ≤ ((k + 1 : Nat) : Int) by omega), Nat.sub_zero] at h
      refine ⟨_, _, _, h, codesN, .inl ⟨rfl, k, rfl, by omega, by omega, ?_⟩⟩
      rw [tz_take_zero hv]
    · rw [decide_eq_false h0, cond_false] at h
      refine ⟨_, _, _, h, codesN, .inr ⟨by simp, ?_⟩⟩
      rw [tz_take_ne hv h0, List.length_take]
      rw [show min (k + 1) xs.length = k + 1 by omega]
def trTree (nn : Bool) : List PV → Fin
  | [.l xs] => .br (decide (xs.length ≤ 9223372036854775807)) (.br (decide ((tz xs).length = xs.length)) (.leaf (.exit 0) ((trG nn).at [.l xs])) (.leaf (.exit 0) ((trV nn).at [.n 0, .n (tz xs).length, .l xs]))) .no
  | _ => .no
theorem tr_whole (nn : Bool) (rd : Option Nat) (xs : List Int) (hl : xs.length ≤ 9223372036854775807) :
    ((tz xs).length = xs.length → SimC Tryz.prog 1 rd (.loop trLp) ((trG nn).at [.l xs]) (.exit 0) ((trG nn).at [.l xs])) ∧
    ((tz xs).length ≠ xs.length → SimC Tryz.prog 1 rd (.loop trLp) ((trG nn).at [.l xs]) (.exit 0) ((trV nn).at [.n 0, .n (tz xs).length, .l xs])) := by
  have hk1 : (trG nn).ok = true := by cases nn <;> kernel_rfl
  have hk2 : (trV nn).ok = true := by cases nn <;> kernel_rfl
  have h := tr_round0 nn rd xs
  have hC : OracleOk Tryz.prog (orcP tabA plainL) := orcP_ok tabA_ok plainL_ok
  rcases Nat.eq_zero_or_pos xs.length with hz | hp
  · rw [decide_eq_false (by rw [hz]; decide)] at h
    have hnil : xs = [] := List.eq_nil_of_length_eq_zero hz
    refine ⟨fun _ => loop_leave hC mixed noLoops_ok hk2 hk1 h codesN (by simp), fun hne => absurd (by rw [hnil]; rfl) hne⟩
  · obtain ⟨v, hv⟩ := get_lt (xs := xs) (m := xs.length - 1) (by omega)
    have htk : xs.take (xs.length - 1 + 1) = xs := by rw [show xs.length - 1 + 1 = xs.length by omega, List.take_length]
    rw [lastI_eq hl hp, ofN, decide_eq_true (by omega), decide_eq_true (by omega), show (((xs.length - 1 : Nat) : Int)).toNat = xs.length - 1 by omega, hv, cond_true, cond_true, oK_some] at h
    by_cases h0 : v = 0
    · subst h0
      rw [decide_eq_true rfl, cond_true, decide_eq_true (show (0 : Int) ≤ 0 ∧ 0 ≤ ((xs.length - 1 : Nat) : Int) ∧ ((xs.length - 1 : Nat) : Int) ≤ (xs.length : Int) by omega), Nat.sub_zero] at h
      have e := tz_take_zero (xs := xs) (m := xs.length - 1) hv
      rw [htk] at e
      have hle := tz_le (xs.take (xs.length - 1))
      rw [List.length_take] at hle
      obtain ⟨n, hn⟩ := tr_loop nn rd xs hl (xs.length - 1) (by omega)
      rw [← e] at hn
      refine ⟨fun hlen => ?_, fun _ => loop_peel hC mixed noLoops_ok hk2 hk1 h codesN hn⟩
      rw [e] at hlen
      omega
    · rw [decide_eq_false h0, cond_false] at h
      have e := tz_take_ne hv h0
      rw [htk] at e
      exact ⟨fun _ => loop_leave hC mixed noLoops_ok hk2 hk1 h codesN (by simp), fun hne => absurd (by rw [e]) hne⟩
noncomputable def trL (nn : Bool) : Loops := sums (fun n => match n with | 1 => some (lsumF 1 (trG nn) trLp (trTree nn)) | _ => none)
theorem trL_ok (nn : Bool) : loopsOk Tryz.prog (trL nn) := by
  intro n g hg
  simp only [trL, sums] at hg
  split at hg
  · cases hg
    refine lsumF_ok (by cases nn <;> kernel_rfl) (fun rd ps e1 st1 hq => ?_)
    unfold trTree at hq
    split at hq
    · rename_i xs
      simp only [Fin.pick] at hq
      cases hc : decide (xs.length ≤ 9223372036854775807) with
      | false => rw [hc] at hq; cases hq
      | true =>
        rw [hc, cond_true] at hq
        obtain ⟨w1, w2⟩ := tr_whole nn rd xs (of_decide_eq_true hc)
        cases hd : decide ((tz xs).length = xs.length) with
        | true => rw [hd, cond_true] at hq; cases hq; exact w1 (of_decide_eq_true hd)
        | false => rw [hd, cond_false] at hq; cases hq; exact w2 (of_decide_eq_false hd)
    · cases hq
  · cases hg
def keepB (v : V) (h : List Blk) : Option (V × List Blk) := some (v, h)
theorem trim_eval (nn : Bool) (xs : List Int) : evalFn Tryz.prog (orcP tabA plainL) (trL nn) 200 85 Tryz.f85 [.gs 0] [.rs nn 1 (.ints .i64 xs)] keepB =
    cond (codesB [(trLp, trLp)]) (bif decide (xs.length ≤ 9223372036854775807) then bif decide ((tz xs).length = xs.length) then some (.gs 0, [.rs nn 1 (.ints .i64 xs)]) else some (.view 0 0 1 (tz xs).length, [.rs nn 1 (.ints .i64 xs)]) else none) none := by cases nn <;> kernel_rfl
theorem codesS (c : Code) : codesB [(c, c)] = true := by rw [codesB_iff]; intro x hx; simp at hx; rw [hx]
theorem trim_fn (nn : Bool) (xs : List Int) (hl : xs.length ≤ 9223372036854775807) : FnOK Tryz.prog 85 [.gs 0] [.rs nn 1 (.ints .i64 xs)] (.view 0 0 1 (tz xs).length) [.rs nn 1 (.ints .i64 xs)] := by
  have h := trim_eval nn xs
  rw [codesS, decide_eq_true hl, cond_true, cond_true] at h
  by_cases hz : (tz xs).length = xs.length
  · rw [decide_eq_true hz] at h
    obtain ⟨v1, h1, hk, hok⟩ := evalFn_ok (orcP_ok tabA_ok plainL_ok) mixed Tryz.func85 (trL_ok nn) h
    cases hk
    rw [hz]
    exact hok.whole
  · rw [decide_eq_false hz] at h
    obtain ⟨v1, h1, hk, hok⟩ := evalFn_ok (orcP_ok tabA_ok plainL_ok) mixed Tryz.func85 (trL_ok nn) h
    cases hk
    exact hok
/-- trim, as the engine takes it. -/
def rTab : RTab := fun f => bif Nat.beq f 85 then some (.i64, fun l => decide (l.length ≤ 9223372036854775807), fun l => (tz l).length) else none
theorem rTab_ok : RTabOk Tryz.prog rTab := by
  intro f k c g hf
  unfold rTab at hf
  cases hb : Nat.beq f 85 with
  | false => rw [hb] at hf; cases hf
  | true =>
    have := Nat.eq_of_beq_eq_true hb
    subst this
    rw [hb, cond_true] at hf
    cases hf
    exact ⟨.of Tryz.func85 (by kernel_rfl), fun l => tz_le l, fun nn l hc => trim_fn nn l (of_decide_eq_true hc)⟩
end Go.Proofs.YtnbfnoomhlamnaaGreat.N2

/- Chapter 2, the reference: the states of its loops. -/
namespace Go.Proofs.YtnbfnoomhlamnaaGreat.N2
open Go Go.Eng
noncomputable def lsLp : Code := loopOf 4 Tryz.f58
noncomputable def adLp : Code := loopOf 4 Tryz.f63
noncomputable def sbLp : Code := loopOf 4 Tryz.f88
noncomputable def mlLp1 : Code := loopOf 3 Tryz.f61
noncomputable def mlLp2 : Code := loopOf 6 Tryz.f61
noncomputable def mlLp3 : Code := loopOf 11 Tryz.f61
noncomputable def ofLp : Code := loopOf 2 Tryz.f60
noncomputable def vlLp : Code := loopOf 3 Tryz.f87
def i64s : TR := .ints .i64
def two (n1 n2 : Bool) : List TB := [.rs n1 1 i64s, .rs n2 1 i64s]
def lsT (n1 n2 : Bool) : Tm := ⟨mkS [(0, .gs 0), (1, .gs 1), (4, .bool), (5, .int .i64)] 0 41, two n1 n2, []⟩
def lsX (n1 n2 : Bool) : Tm := ⟨mkS [(4, .bool)] 0 41, two n1 n2, []⟩
def adT (n1 n2 : Bool) : Tm := ⟨mkS [(0, .gs 0), (1, .gs 1), (5, .gs 2), (6, .int .i64), (7, .int .i64)] 0 52, two n1 n2 ++ [.grow false 3 1 i64s], []⟩
def adX (n1 n2 : Bool) : Tm := ⟨mkS [(5, .gs 2)] 0 52, two n1 n2 ++ [.grow false 3 1 i64s], []⟩
def sbT (n1 n2 : Bool) : Tm := ⟨mkS [(0, .gs 0), (1, .gs 1), (5, .gs 2), (6, .int .i64), (7, .int .i64)] 0 41, two n1 n2 ++ [.grow false 3 1 i64s], []⟩
def sbX (n1 n2 : Bool) : Tm := ⟨mkS [(5, .gs 2)] 0 41, two n1 n2 ++ [.grow false 3 1 i64s], []⟩
def mlT1 (n1 n2 : Bool) : Tm := ⟨mkS [(0, .gs 0), (1, .gs 1), (5, .gs 2), (6, .int .i64)] 0 70, two n1 n2 ++ [.grow true 3 1 i64s], []⟩
def mlX1 (n1 n2 : Bool) : Tm := ⟨mkS [(5, .gs 2)] 0 70, two n1 n2 ++ [.grow true 3 1 i64s], []⟩
def mlT2 (n1 n2 : Bool) : Tm := ⟨mkS [(0, .gs 0), (1, .gs 1), (5, .gs 2), (6, .int .i64), (7, .int .i64)] 0 70, two n1 n2 ++ [.grow true 3 1 i64s], []⟩
def mlT3 (n1 n2 : Bool) : Tm := ⟨mkS [(5, .gs 2), (8, .int .i64), (9, .int .i64)] 0 70, two n1 n2 ++ [.grow true 3 1 i64s], []⟩
def ofT : Tm := ⟨mkS [(0, .int .i64), (3, .gs 0)] 0 14, [.grow false 3 1 i64s], []⟩
def ofX : Tm := ⟨mkS [(3, .gs 0)] 0 14, [.grow false 3 1 i64s], []⟩
def vlT (n1 : Bool) : Tm := ⟨mkS [(0, .gs 0), (3, .int .i64), (4, .int .i64)] 0 20, [.rs n1 1 i64s], []⟩
def vlX (n1 : Bool) : Tm := ⟨mkS [(3, .int .i64)] 0 20, [.rs n1 1 i64s], []⟩
end Go.Proofs.YtnbfnoomhlamnaaGreat.N2
