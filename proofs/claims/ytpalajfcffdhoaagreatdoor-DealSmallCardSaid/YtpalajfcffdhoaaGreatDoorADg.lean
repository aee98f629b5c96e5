/- Texts merged: ADg, ATr, ATr2. -/
import Derived.Test.YtpalajfcffdhoaaGreatDoorAW
import Derived.Test.YtpalajfcffdhoaaGreatDoorANat2
import Derived.Test.YtpalajfcffdhoaaGreatDoorEng4
/- Chapter 2: decimal digits, plainly (the lowest one first). -/
namespace Go.Proofs.YtpalajfcffdhoaaGreatDoor.N2
open Go Go.Eng
def Dg : Nat → Nat → List Int
  | 0, _ => []
  | k + 1, n => if n = 0 then [] else ((n % 10 : Nat) : Int) :: Dg k (n / 10)
theorem Dg_eq : ∀ {k m n : Nat}, n ≤ k → n ≤ m → Dg k n = Dg m n
  | 0, 0, _, _, _ => rfl
  | 0, m + 1, n, h, _ => by
    obtain rfl : n = 0 := by omega
    simp [Dg]
  | k + 1, 0, n, _, h => by
    obtain rfl : n = 0 := by omega
    simp [Dg]
  | k + 1, m + 1, n, h1, h2 => by
    simp only [Dg]
    by_cases h0 : n = 0
    · simp [h0]
    · rw [if_neg h0, if_neg h0, Dg_eq (k := k) (m := m) (by omega) (by omega)]
def D (n : Nat) : List Int := Dg n n
theorem D_zero : D 0 = [] := rfl
theorem D_pos {n : Nat} (h : 0 < n) : D n = ((n % 10 : Nat) : Int) :: D (n / 10) := by
  obtain ⟨k, rfl⟩ : ∃ k, n = k + 1 := ⟨n - 1, by omega⟩
  show Dg (k + 1) (k + 1) = _
  simp only [Dg]
  rw [if_neg (by omega)]
  unfold D
  rw [Dg_eq (k := k) (m := (k + 1) / 10) (by omega) (by omega)]
def val : List Int → Int
  | [] => 0
  | d :: r => d + 10 * val r
def dig (l : List Int) : Bool := l.all fun d => decide (0 ≤ d ∧ d < 10)
theorem dig_cons {d : Int} {r : List Int} : dig (d :: r) = true ↔ (0 ≤ d ∧ d < 10) ∧ dig r = true := by simp [dig]
theorem dig_mem {l : List Int} (h : dig l = true) {d : Int} (hd : d ∈ l) : 0 ≤ d ∧ d < 10 := by
  have := List.all_eq_true.1 h d hd
  simpa using this
theorem val_nonneg : ∀ {l : List Int}, dig l = true → 0 ≤ val l
  | [], _ => by simp [val]
  | d :: r, h => by
    rw [dig_cons] at h
    have := val_nonneg h.2
    simp only [val]; omega
theorem val_lt : ∀ {l : List Int}, dig l = true → val l < 10 ^ l.length
  | [], _ => by simp [val]
  | d :: r, h => by
    rw [dig_cons] at h
    have := val_lt h.2
    simp only [val, List.length_cons, Int.pow_succ]; omega
theorem dig_D : ∀ n : Nat, dig (D n) = true := fun n => by
  induction n using Nat.strongRecOn with
  | _ n ih =>
    rcases Nat.eq_zero_or_pos n with rfl | h
    · rfl
    · rw [D_pos h, dig_cons]
      exact ⟨by omega, ih (n / 10) (by omega)⟩
theorem val_D : ∀ n : Nat, val (D n) = n := fun n => by
  induction n using Nat.strongRecOn with
  | _ n ih =>
    rcases Nat.eq_zero_or_pos n with rfl | h
    · rfl
    · rw [D_pos h]
      simp only [val]
      rw [ih (n / 10) (by omega)]
      omega
def tz : List Int → List Int
  | [] => []
  | d :: r => match tz r with
    | [] => if d = 0 then [] else [d]
    | e :: q => d :: e :: q
theorem tz_cons (d : Int) (r : List Int) : tz (d :: r) = if tz r = [] then (if d = 0 then [] else [d]) else d :: tz r := by
  simp only [tz]
  cases h : tz r <;> simp
theorem tz_val : ∀ {l : List Int}, dig l = true → tz l = D (val l).toNat
  | [], _ => rfl
  | d :: r, h => by
    rw [dig_cons] at h
    have ih := tz_val h.2
    have h0 := val_nonneg h.2
    rw [tz_cons, ih]
    simp only [val]
    by_cases hz : val r = 0
    · rw [hz]
      rw [if_pos (show D (0 : Int).toNat = [] from rfl)]
      by_cases hd : d = 0
      · subst hd; rfl
      · rw [if_neg hd, show d + 10 * 0 = d by omega, D_pos (by omega), show d.toNat / 10 = 0 by omega, D_zero, show d.toNat % 10 = d.toNat by omega, show ((d.toNat : Nat) : Int) = d by omega]
    · have hp : 0 < (val r).toNat := by omega
      rw [if_neg (by rw [D_pos hp]; simp), D_pos (n := (d + 10 * val r).toNat) (by omega), show (((d + 10 * val r).toNat % 10 : Nat) : Int) = d by omega, show (d + 10 * val r).toNat / 10 = (val r).toNat by omega]
theorem tz_prefix : ∀ l : List Int, tz l = l.take (tz l).length
  | [] => rfl
  | d :: r => by
    have ih := tz_prefix r
    rw [tz_cons]
    split
    · split <;> simp
    · simp only [List.length_cons, List.take_succ_cons]
      rw [← ih]
theorem tz_le (l : List Int) : (tz l).length ≤ l.length := by
  have h := congrArg List.length (tz_prefix l)
  rw [List.length_take] at h; omega
theorem tz_D (n : Nat) : tz (D n) = D n := by rw [tz_val (dig_D n), val_D]; rfl
theorem tz_snoc_zero : ∀ l : List Int, tz (l ++ [0]) = tz l
  | [] => rfl
  | d :: r => by
    rw [List.cons_append, tz_cons, tz_cons, tz_snoc_zero r]
theorem tz_snoc_ne {d : Int} (hd : d ≠ 0) : ∀ l : List Int, tz (l ++ [d]) = l ++ [d]
  | [] => by simp [tz, hd]
  | e :: r => by
    rw [List.cons_append, tz_cons, tz_snoc_ne hd r, if_neg (by simp)]
def isD (l : List Int) : Bool := decide (l = D (val l).toNat)
theorem isD_D (n : Nat) : isD (D n) = true := by unfold isD; rw [val_D]; simp
theorem isD_eq {l : List Int} (h : isD l = true) : ∃ n : Nat, l = D n := ⟨_, of_decide_eq_true h⟩
theorem D_len_lt : ∀ {k n : Nat}, n < 10 ^ k → (D n).length ≤ k
  | 0, n, h => by
    obtain rfl : n = 0 := by simp at h; exact h
    simp [D_zero]
  | k + 1, n, h => by
    rcases Nat.eq_zero_or_pos n with rfl | hp
    · simp [D_zero]
    · rw [D_pos hp]
      have := D_len_lt (k := k) (n := n / 10) (by rw [Nat.pow_succ] at h; omega)
      simp only [List.length_cons]; omega
end Go.Proofs.YtpalajfcffdhoaaGreatDoor.N2

/- Chapter 2, the reference: trim. -/
namespace Go.Proofs.YtpalajfcffdhoaaGreatDoor.N2
open Go Go.Eng
noncomputable def trLp : Code := loopOf 1 Tryz.f90
def trG (nn : Bool) : Tm := ⟨mkS [(0, .gs 0)] 0 21, [.rs nn 1 (.ints .i64)], []⟩
def trV (nn : Bool) : Tm := ⟨mkS [(0, .view 0 1)] 0 21, [.rs nn 1 (.ints .i64)], []⟩
def lastI (n : Nat) : Int := wr .i64 (Int.ofNat n - 1)
theorem tr_round0 (nn : Bool) (rd : Option Nat) (xs : List Int) : roundG Tryz.prog (orcP tabA plainL) noLoops 200 1 rd 90 trLp (trG nn) (trV nn) (trG nn) [.l xs] =
    bif decide (0 < Int.ofNat xs.length) then bif decide (0 ≤ lastI xs.length ∧ lastI xs.length < Int.ofNat xs.length) then oK xs[(lastI xs.length).toNat]? (fun v => bif decide (v = 0) then
      bif decide ((0 : Int) ≤ 0 ∧ 0 ≤ lastI xs.length ∧ lastI xs.length ≤ Int.ofNat xs.length) then some (.normal, [.n 0, .n ((lastI xs.length).toNat - 0), .l xs], []) else none else some (.exit 0, [.l xs], [])) else none else some (.exit 0, [.l xs], []) := by cases nn <;> kernel_rfl
theorem tr_round (nn : Bool) (rd : Option Nat) (m : Nat) (xs : List Int) : roundT Tryz.prog (orcP tabA plainL) noLoops 200 1 rd 90 trLp (trV nn) (trV nn) [.n 0, .n m, .l xs] =
    bif decide (0 < Int.ofNat m) then bif decide (0 ≤ lastI m ∧ lastI m < Int.ofNat m ∧ 0 + m ≤ xs.length) then oK xs[(lastI m).toNat]? (fun v => bif decide (v = 0) then bif decide (0 + m ≤ xs.length) then
      bif decide ((0 : Int) ≤ 0 ∧ 0 ≤ lastI m ∧ lastI m ≤ Int.ofNat m) then some (.normal, [.n 0, .n ((lastI m).toNat - 0), .l xs], []) else none else none else some (.exit 0, [.n 0, .n m, .l xs], [])) else none else some (.exit 0, [.n 0, .n m, .l xs], []) := by cases nn <;> kernel_rfl
end Go.Proofs.YtpalajfcffdhoaaGreatDoor.N2

/- Chapter 2, the reference: trim, for every list. -/
namespace Go.Proofs.YtpalajfcffdhoaaGreatDoor.N2
open Go Go.Eng
theorem codesN : codesOk [] := fun _ h => by cases h
theorem lastI_eq {n : Nat} (h : n ≤ 9223372036854775807) (hp : 0 < n) : lastI n = ((n - 1 : Nat) : Int) := by
  unfold lastI
  rw [wr64 (by show -9223372036854775808 ≤ (n : Int) - 1; omega) (by show (n : Int) - 1 < _; omega)]
  show (n : Int) - 1 = _
  omega
theorem tz_take_zero {xs : List Int} {m : Nat} (h0 : xs[m]? = some 0) : tz (xs.take (m + 1)) = tz (xs.take m) := by
  rw [List.take_add_one, h0]
  exact tz_snoc_zero _
theorem tz_take_ne {xs : List Int} {m : Nat} {v : Int} (hv : xs[m]? = some v) (h0 : v ≠ 0) : tz (xs.take (m + 1)) = xs.take (m + 1) := by
  rw [List.take_add_one, hv]
  exact tz_snoc_ne h0 _
theorem get_lt {xs : List Int} {m : Nat} (h : m < xs.length) : ∃ v, xs[m]? = some v := ⟨xs[m], List.getElem?_eq_getElem h⟩
theorem ofN (n : Nat) : Int.ofNat n = (n : Int) := rfl
theorem tr_loop (nn : Bool) (rd : Option Nat) (xs : List Int) (hl : xs.length ≤ 9223372036854775807) : ∀ m : Nat, m ≤ xs.length →
    ∃ n, SimL Tryz.prog 1 rd trLp n ((trV nn).at [.n 0, .n m, .l xs]) (.exit 0) ((trV nn).at [.n 0, .n (tz (xs.take m)).length, .l xs]) := by
  refine loop_of_rounds_n (C := orcP tabA plainL) (L := noLoops) (N := 200) (me := 90) (T := trV nn) (T' := trV nn) (orcP_ok tabA_ok plainL_ok) mixed noLoops_ok (by cases nn <;> kernel_rfl) (by cases nn <;> kernel_rfl) (X := Nat)
    (fun m => [.n 0, .n m, .l xs]) (fun m => m ≤ xs.length) (fun m => m) (fun m => (.exit 0, [.n 0, .n (tz (xs.take m)).length, .l xs])) ?_
  intro m hm
  have h := tr_round nn rd m xs
  rcases Nat.eq_zero_or_pos m with rfl | hp
  · rw [decide_eq_false (by decide)] at h
    exact ⟨_, _, _, h, codesN, .inr ⟨by simp, by simp [tz]⟩⟩
  · obtain ⟨k, rfl⟩ : ∃ k, m = k + 1 := ⟨m - 1, by omega⟩
    obtain ⟨v, hv⟩ := get_lt (xs := xs) (m := k) (by omega)
    rw [lastI_eq (by omega) hp, ofN, decide_eq_true (by omega), decide_eq_true (by omega), show (((k + 1 - 1 : Nat) : Int)).toNat = k by omega, hv, cond_true, cond_true, oK_some] at h
    by_cases h0 : v = 0
    · subst h0
      rw [decide_eq_true rfl, cond_true, decide_eq_true (show 0 + (k + 1) ≤ xs.length by omega), decide_eq_true (show (0 : Int) ≤ 0 ∧ 0 ≤ ((k + 1 - 1 : Nat) : Int) ∧ ((k + 1 - 1 : Nat) : Int) ≤ ((k + 1 : Nat) : Int) by omega), Nat.sub_zero] at h
      refine ⟨_, _, _, h, codesN, .inl ⟨rfl, k, rfl, by omega, by omega, ?_⟩⟩
      rw [tz_take_zero hv]
    · rw [decide_eq_false h0, cond_false] at h
      refine ⟨_, _, _, h, codesN, .inr ⟨by simp, ?_⟩⟩
      rw [tz_take_ne hv h0, List.length_take]
      rw [show min (k + 1) xs.length = k + 1 by omega]
def trTree (nn : Bool) : List PV → Fin
  | [.l xs] => .br (decide (xs.length ≤ 9223372036854775807)) (.br (decide ((tz xs).length = xs.length)) (.leaf (.exit 0) ((trG nn).at [.l xs])) (.leaf (.exit 0) ((trV nn).at [.n 0, .n (tz xs).length, .l xs]))) .no
  | _ => .no
theorem tr_whole (nn : Bool) (rd : Option Nat) (xs : List Int) (hl : xs.length ≤ 9223372036854775807) :
    ((tz xs).length = xs.length → SimC Tryz.prog 1 rd (.loop trLp) ((trG nn).at [.l xs]) (.exit 0) ((trG nn).at [.l xs])) ∧
    ((tz xs).length ≠ xs.length → SimC Tryz.prog 1 rd (.loop trLp) ((trG nn).at [.l xs]) (.exit 0) ((trV nn).at [.n 0, .n (tz xs).length, .l xs])) := by
  have hk1 : (trG nn).ok = true := by cases nn <;> kernel_rfl
  have hk2 : (trV nn).ok = true := by cases nn <;> kernel_rfl
  have h := tr_round0 nn rd xs
  have hC : OracleOk Tryz.prog (orcP tabA plainL) := orcP_ok tabA_ok plainL_ok
  rcases Nat.eq_zero_or_pos xs.length with hz | hp
  · rw [decide_eq_false (by rw [hz]; decide)] at h
    have hnil : xs = [] := List.eq_nil_of_length_eq_zero hz
    refine ⟨fun _ => loop_leave hC mixed noLoops_ok hk2 hk1 h codesN (by simp), fun hne => absurd (by rw [hnil]; rfl) hne⟩
  · obtain ⟨v, hv⟩ := get_lt (xs := xs) (m := xs.length - 1) (by omega)
    have htk : xs.take (xs.length - 1 + 1) = xs := by rw [show xs.length - 1 + 1 = xs.length by omega, List.take_length]
    rw [lastI_eq hl hp, ofN, decide_eq_true (by omega), decide_eq_true (by omega), show (((xs.length - 1 : Nat) : Int)).toNat = xs.length - 1 by omega, hv, cond_true, cond_true, oK_some] at h
    by_cases h0 : v = 0
    · subst h0
      rw [decide_eq_true rfl, cond_true, decide_eq_true (show (0 : Int) ≤ 0 ∧ 0 ≤ ((xs.length - 1 : Nat) : Int) ∧ ((xs.length - 1 : Nat) : Int) ≤ (xs.length : Int) by omega), Nat.sub_zero] at h
      have e := tz_take_zero (xs := xs) (m := xs.length - 1) hv
      rw [htk] at e
      have hle := tz_le (xs.take (xs.length - 1))
      rw [List.length_take] at hle
      obtain ⟨n, hn⟩ := tr_loop nn rd xs hl (xs.length - 1) (by omega)
      rw [← e] at hn
      refine ⟨fun hlen => ?_, fun _ => loop_peel hC mixed noLoops_ok hk2 hk1 h codesN hn⟩
      rw [e] at hlen
      omega
    · rw [decide_eq_false h0, cond_false] at h
      have e := tz_take_ne hv h0
      rw [htk] at e
      exact ⟨fun _ => loop_leave hC mixed noLoops_ok hk2 hk1 h codesN (by simp), fun hne => absurd (by rw [e]) hne⟩
noncomputable def trL (nn : Bool) : Loops := sums (fun n => match n with | 1 => some (lsumF 1 (trG nn) trLp (trTree nn)) | _ => none)
theorem trL_ok (nn : Bool) : loopsOk Tryz.prog (trL nn) := by
  intro n g hg
  simp only [trL, sums] at hg
  split at hg
  · cases hg
    refine lsumF_ok (by cases nn <;> kernel_rfl) (fun rd ps e1 st1 hq => ?_)
    unfold trTree at hq
    split at hq
    · rename_i xs
      simp only [Fin.pick] at hq
      cases hc : decide (xs.length ≤ 9223372036854775807) with
      | false => rw [hc] at hq; cases hq
      | true =>
        rw [hc, cond_true] at hq
        obtain ⟨w1, w2⟩ := tr_whole nn rd xs (of_decide_eq_true hc)
        cases hd : decide ((tz xs).length = xs.length) with
        | true => rw [hd, cond_true] at hq; cases hq; exact w1 (of_decide_eq_true hd)
        | false => rw [hd, cond_false] at hq; cases hq; exact w2 (of_decide_eq_false hd)
    · cases hq
  · cases hg
def keepB (v : V) (h : List Blk) : Option (V × List Blk) := some (v, h)
theorem trim_eval (nn : Bool) (xs : List Int) : evalFn Tryz.prog (orcP tabA plainL) (trL nn) 200 90 Tryz.f90 [.gs 0] [.rs nn 1 (.ints .i64 xs)] keepB =
    cond (codesB [(trLp, trLp)]) (bif decide (xs.length ≤ 9223372036854775807) then bif decide ((tz xs).length = xs.length) then some (.gs 0, [.rs nn 1 (.ints .i64 xs)]) else some (.view 0 0 1 (tz xs).length, [.rs nn 1 (.ints .i64 xs)]) else none) none := by cases nn <;> kernel_rfl
theorem codesS (c : Code) : codesB [(c, c)] = true := by rw [codesB_iff]; intro x hx; simp at hx; rw [hx]
theorem trim_fn (nn : Bool) (xs : List Int) (hl : xs.length ≤ 9223372036854775807) : FnOK Tryz.prog 90 [.gs 0] [.rs nn 1 (.ints .i64 xs)] (.view 0 0 1 (tz xs).length) [.rs nn 1 (.ints .i64 xs)] := by
  have h := trim_eval nn xs
  rw [codesS, decide_eq_true hl, cond_true, cond_true] at h
  by_cases hz : (tz xs).length = xs.length
  · rw [decide_eq_true hz] at h
    obtain ⟨v1, h1, hk, hok⟩ := evalFn_ok (orcP_ok tabA_ok plainL_ok) mixed Tryz.func90 (trL_ok nn) h
    cases hk
    rw [hz]
    exact hok.whole
  · rw [decide_eq_false hz] at h
    obtain ⟨v1, h1, hk, hok⟩ := evalFn_ok (orcP_ok tabA_ok plainL_ok) mixed Tryz.func90 (trL_ok nn) h
    cases hk
    exact hok
def rTab : RTab := fun f => bif Nat.beq f 90 then some (.i64, fun l => decide (l.length ≤ 9223372036854775807), fun l => (tz l).length) else none
theorem rTab_ok : RTabOk Tryz.prog rTab := by
  intro f k c g hf
  unfold rTab at hf
  cases hb : Nat.beq f 90 with
  | false => rw [hb] at hf; cases hf
  | true =>
    have := Nat.eq_of_beq_eq_true hb
    subst this
    rw [hb, cond_true] at hf
    cases hf
    exact ⟨.of Tryz.func90 (by kernel_rfl), fun l => tz_le l, fun nn l hc => trim_fn nn l (of_decide_eq_true hc)⟩
end Go.Proofs.YtpalajfcffdhoaaGreatDoor.N2
