/- Chapter 8: SameBytes, and the calls made of numbers: their contracts. -/
import Derived.Test.YtpehklboickdpaaDoorKit
namespace Go.Proofs.YtpehklboickdpaaDoor
open Go Go.Eng
theorem sa_round (n1 n2 : Bool) (rd : Option Nat) (xs ys : List Int) (b : Bool) (i : Int) : roundT Tryd.prog (orcS tabS plainL) noLoops 100 2 rd 24 saLp (saT n1 n2) (saX n1 n2) [.b b, .i i, .l xs, .l ys] =
    bif decide (i < Int.ofNat xs.length) then atU xs i (fun x => atU ys i (fun y => bif !decide (x = y) then some (.ret, [.b false, .l xs, .l ys], []) else some (.normal, [.b b, .i (wr .i64 (i + 1)), .l xs, .l ys], []))) else some (.exit 0, [.b b, .l xs, .l ys], []) := by cases n1 <;> cases n2 <;> kernel_rfl
def eqI : List Int → List Int → Bool
  | [], [] => true
  | x :: r, y :: q => decide (x = y) && eqI r q
  | _, _ => false
theorem eqI_iff : ∀ {l r : List Int}, eqI l r = true ↔ l = r
  | [], [] => by simp [eqI]
  | [], _ :: _ => by simp [eqI]
  | _ :: _, [] => by simp [eqI]
  | x :: l, y :: r => by simp [eqI, eqI_iff (l := l) (r := r)]
theorem eqI_len {l r : List Int} (h : l.length ≠ r.length) : eqI l r = false := by
  cases hh : eqI l r with
  | false => rfl
  | true => exact absurd (congrArg List.length (eqI_iff.1 hh)) h
theorem atU_at {α : Type} {l : List Int} {i : Nat} (h : i < l.length) (K : Int → Option α) : atU l (i : Int) K = K l[i] := by
  unfold atU
  rw [decide_eq_true (show 0 ≤ (i : Int) ∧ (i : Int) < Int.ofNat l.length from ⟨by omega, by show (i : Int) < (l.length : Int); omega⟩), cond_true, show ((i : Int)).toNat = i from rfl, List.getElem?_eq_getElem h]
def saFin (b : Bool) (xs ys : List Int) (r : Bool) : XE × List PV := (if r = true then .exit 0 else .ret, [.b (if r = true then b else false), .l xs, .l ys])
theorem sa_loop (n1 n2 : Bool) (rd : Option Nat) (xs ys : List Int) (b : Bool) (hl : xs.length = ys.length) (hs : xs.length ≤ 1000000) : ∀ i : Nat, i ≤ xs.length →
    SimC Tryd.prog 2 rd (.loop saLp) ((saT n1 n2).at [.b b, .i (i : Int), .l xs, .l ys]) (saFin b xs ys (eqI (xs.drop i) (ys.drop i))).1 ((saX n1 n2).at (saFin b xs ys (eqI (xs.drop i) (ys.drop i))).2) := by
  refine loop_of_rounds (C := orcS tabS plainL) (L := noLoops) (N := 100) (me := 24) (T := saT n1 n2) (T' := saX n1 n2) (orcS_ok tabS_ok plainL_ok) mixed noLoops_ok (by cases n1 <;> cases n2 <;> kernel_rfl) (by cases n1 <;> cases n2 <;> kernel_rfl) (X := Nat)
    (fun i => [.b b, .i (i : Int), .l xs, .l ys]) (fun i => i ≤ xs.length) (fun i => xs.length - i) (fun i => saFin b xs ys (eqI (xs.drop i) (ys.drop i))) ?_
  intro i hi
  have h := sa_round n1 n2 rd xs ys b (i : Int)
  rcases Nat.lt_or_ge i xs.length with hlt | hge
  · rw [decide_eq_true (show (i : Int) < Int.ofNat xs.length by show (i : Int) < (xs.length : Int); omega), cond_true, atU_at hlt, atU_at (show i < ys.length by omega), wr64 (by omega) (by omega)] at h
    have e : eqI (xs.drop i) (ys.drop i) = (decide (xs[i] = ys[i]) && eqI (xs.drop (i + 1)) (ys.drop (i + 1))) := by
      rw [List.drop_eq_getElem_cons hlt, List.drop_eq_getElem_cons (show i < ys.length by omega)]; rfl
    rw [e]
    by_cases hb : xs[i] = ys[i]
    · rw [decide_eq_true hb] at h ⊢
      exact ⟨_, _, _, h, codes0, .inl ⟨rfl, i + 1, rfl, by omega, by omega, by rw [Bool.true_and]⟩⟩
    · rw [decide_eq_false hb] at h ⊢
      exact ⟨_, _, _, h, codes0, .inr ⟨by simp, rfl⟩⟩
  · rw [decide_eq_false (show ¬ (i : Int) < Int.ofNat xs.length from fun h => by have : (i : Int) < (xs.length : Int) := h; omega), cond_false] at h
    refine ⟨_, _, _, h, codes0, .inr ⟨by simp, ?_⟩⟩
    rw [List.drop_eq_nil_of_le (by omega), List.drop_eq_nil_of_le (by omega)]; rfl
noncomputable def saTree (n1 n2 : Bool) : List PV → Fin
  | [.b b, .i i, .l xs, .l ys] => .br (decide (i = 0 ∧ xs.length = ys.length ∧ xs.length ≤ 1000000)) (.br (eqI xs ys) (.leaf (.exit 0) ((saX n1 n2).at [.b b, .l xs, .l ys])) (.leaf .ret ((saX n1 n2).at [.b false, .l xs, .l ys]))) .no
  | _ => .no
noncomputable def saL (n1 n2 : Bool) : Loops := sums (fun n => match n with | 4 => some (lsumF 2 (saT n1 n2) saLp (saTree n1 n2)) | _ => none)
theorem saL_ok (n1 n2 : Bool) : loopsOk Tryd.prog (saL n1 n2) := by
  intro n g hg
  simp only [saL, sums] at hg
  split at hg
  · cases hg
    refine lsumF_ok (by cases n1 <;> cases n2 <;> kernel_rfl) (fun rd ps e1 st1 hq => ?_)
    unfold saTree at hq
    split at hq
    · rename_i b i xs ys
      simp only [Fin.pick] at hq
      cases hc : decide (i = 0 ∧ xs.length = ys.length ∧ xs.length ≤ 1000000) with
      | false => rw [hc] at hq; cases hq
      | true =>
        rw [hc, cond_true] at hq
        rw [decide_eq_true_eq] at hc
        obtain ⟨rfl, h1, h2⟩ := hc
        have := sa_loop n1 n2 rd xs ys b h1 h2 0 (Nat.zero_le _)
        rw [show xs.drop 0 = xs from rfl, show ys.drop 0 = ys from rfl] at this
        unfold saFin at this
        cases hr : eqI xs ys with
        | true => rw [hr] at hq this; cases hq; exact this
        | false => rw [hr] at hq this; cases hq; exact this
    · cases hq
  · cases hg
theorem same_eval (n1 n2 : Bool) (xs ys : List Int) : evalFn Tryd.prog (orcS tabS plainL) (saL n1 n2) 100 24 Tryd.f24 [.gs 0, .gs 1] [.rs n1 1 (.ints .u8 xs), .rs n2 1 (.ints .u8 ys)] (fun v _ => some v) =
    bif !decide (Int.ofNat xs.length = Int.ofNat ys.length) then some (.bool false) else cond (codesB [(saLp, saLp)]) (bif decide ((0 : Int) = 0 ∧ xs.length = ys.length ∧ xs.length ≤ 1000000) then bif eqI xs ys then some (.bool true) else some (.bool false) else none) none := by cases n1 <;> cases n2 <;> kernel_rfl
theorem two_ro {n1 n2 : Bool} {r1 r2 : Row} {s1 s2 : Nat} : ∀ (b : Nat) blk, ([.rs n1 s1 r1, .rs n2 s2 r2] : List Blk)[b]? = some blk → blk.mine = false := by
  intro b blk hb
  match b, hb with
  | 0, hb => cases hb; rfl
  | 1, hb => cases hb; rfl
  | _ + 2, hb => simp at hb
theorem one_ro {n1 : Bool} {r1 : Row} {s1 : Nat} : ∀ (b : Nat) blk, ([.rs n1 s1 r1] : List Blk)[b]? = some blk → blk.mine = false := by
  intro b blk hb
  match b, hb with
  | 0, hb => cases hb; rfl
  | _ + 1, hb => simp at hb
theorem same_fn (n1 n2 : Bool) {xs ys : List Int} (hs : xs.length ≤ 1000000) : FnOK Tryd.prog 24 [.gs 0, .gs 1] [.rs n1 1 (.ints .u8 xs), .rs n2 1 (.ints .u8 ys)] (.bool (eqI xs ys)) [.rs n1 1 (.ints .u8 xs), .rs n2 1 (.ints .u8 ys)] := by
  have cd : codesB [(saLp, saLp)] = true := by rw [codesB_iff]; intro x hx; simp at hx; rw [hx]
  have key : evalFn Tryd.prog (orcS tabS plainL) (saL n1 n2) 100 24 Tryd.f24 [.gs 0, .gs 1] [.rs n1 1 (.ints .u8 xs), .rs n2 1 (.ints .u8 ys)] (fun v _ => some v) = some (.bool (eqI xs ys)) := by
    rw [same_eval, cd]
    by_cases hl : xs.length = ys.length
    · rw [decide_eq_true (show Int.ofNat xs.length = Int.ofNat ys.length by rw [hl]), decide_eq_true ⟨rfl, hl, hs⟩]
      cases eqI xs ys <;> rfl
    · rw [decide_eq_false (show ¬ Int.ofNat xs.length = Int.ofNat ys.length from fun h => hl (by have : (xs.length : Int) = (ys.length : Int) := h; omega)), eqI_len hl]; rfl
  obtain ⟨v1, h1, hk, hok⟩ := evalFn_ok (orcS_ok tabS_ok plainL_ok) mixed Tryd.func24 (saL_ok n1 n2) key
  cases hk
  exact hok.plain rfl two_ro
/-! ### made -/
theorem md_round (nn : Bool) (rd : Option Nat) (xs ys : List Int) (n i : Int) (k : Nat) : roundT Tryd.prog (orcS tabS plainL) noLoops 100 1 rd 23 mdLp (mdT nn) (mdX nn) [.n 0, .n k, .i n, .i i, .l xs, .l ys] =
    bif decide (i < n) then bif decide (0 ≤ i ∧ i < Int.ofNat k ∧ 0 + k ≤ xs.length) then (match xs[addS 0 i.toNat]? with | some c => bif decide ((ys ++ [c.tmod 38]).length * 2 ≤ 70368744177664) then some (.normal, [.n 0, .n k, .i n, .i (wr .i64 (i + 1)), .l xs, .l (ys ++ [c.tmod 38])], []) else none | none => none) else none else some (.exit 0, [.l xs, .l ys], []) := by cases nn <;> kernel_rfl
def mdF (xs : List Int) : List Int := (xs.take 319).map fun c => c.tmod 38
theorem md_loop (nn : Bool) (rd : Option Nat) (xs : List Int) (k : Nat) (hk : k ≤ xs.length) (h3 : k ≤ 319) : ∀ i : Nat, i ≤ k →
    SimC Tryd.prog 1 rd (.loop mdLp) ((mdT nn).at [.n 0, .n k, .i (k : Int), .i (i : Int), .l xs, .l ((xs.take i).map fun c => c.tmod 38)]) (.exit 0) ((mdX nn).at [.l xs, .l ((xs.take k).map fun c => c.tmod 38)]) := by
  refine loop_of_rounds (C := orcS tabS plainL) (L := noLoops) (N := 100) (me := 23) (T := mdT nn) (T' := mdX nn) (orcS_ok tabS_ok plainL_ok) mixed noLoops_ok (by cases nn <;> kernel_rfl) (by cases nn <;> kernel_rfl) (X := Nat)
    (fun i => [.n 0, .n k, .i (k : Int), .i (i : Int), .l xs, .l ((xs.take i).map fun c => c.tmod 38)]) (fun i => i ≤ k) (fun i => k - i) (fun _ => (.exit 0, [.l xs, .l ((xs.take k).map fun c => c.tmod 38)])) ?_
  intro i hi
  have h := md_round nn rd xs ((xs.take i).map fun c => c.tmod 38) (k : Int) (i : Int) k
  rcases Nat.lt_or_ge i k with hlt | hge
  · have hx : i < xs.length := by omega
    have e : ((xs.take i).map fun c => c.tmod 38) ++ [xs[i].tmod 38] = (xs.take (i + 1)).map fun c => c.tmod 38 := by
      rw [List.take_succ_eq_append_getElem hx, List.map_append]; rfl
    have hlen : ((xs.take (i + 1)).map fun c => c.tmod 38).length * 2 ≤ 70368744177664 := by rw [List.length_map, List.length_take]; omega
    rw [decide_eq_true (show (i : Int) < (k : Int) by omega), cond_true, decide_eq_true (show 0 ≤ (i : Int) ∧ (i : Int) < Int.ofNat k ∧ 0 + k ≤ xs.length from ⟨by omega, by show (i : Int) < (k : Int); omega, by omega⟩), cond_true, addS_eq, show 0 + ((i : Int)).toNat = i by omega, List.getElem?_eq_getElem hx] at h
    dsimp only at h
    rw [e, decide_eq_true hlen, cond_true, wr64 (by omega) (by omega)] at h
    exact ⟨_, _, _, h, codes0, .inl ⟨rfl, i + 1, rfl, by omega, by omega, rfl⟩⟩
  · obtain rfl : i = k := by omega
    rw [decide_eq_false (show ¬ (i : Int) < (i : Int) by omega), cond_false] at h
    exact ⟨_, _, _, h, codes0, .inr ⟨by simp, rfl⟩⟩
noncomputable def mdTree (nn : Bool) : List PV → Fin
  | [.n 0, .n k, .i n, .i i, .l xs, .l ys] => .br (decide (n = (k : Int) ∧ i = 0 ∧ k ≤ xs.length ∧ k ≤ 319 ∧ ys.length = 0)) (.leaf (.exit 0) ((mdX nn).at [.l xs, .l ((xs.take k).map fun c => c.tmod 38)])) .no
  | _ => .no
noncomputable def mdL (nn : Bool) : Loops := sums (fun n => match n with | 3 => some (lsumF 1 (mdT nn) mdLp (mdTree nn)) | _ => none)
theorem mdL_ok (nn : Bool) : loopsOk Tryd.prog (mdL nn) := by
  intro n g hg
  simp only [mdL, sums] at hg
  split at hg
  · cases hg
    refine lsumF_ok (by cases nn <;> kernel_rfl) (fun rd ps e1 st1 hq => ?_)
    unfold mdTree at hq
    split at hq
    · rename_i k n i xs ys
      simp only [Fin.pick] at hq
      cases hc : decide (n = (k : Int) ∧ i = 0 ∧ k ≤ xs.length ∧ k ≤ 319 ∧ ys.length = 0) with
      | false => rw [hc] at hq; cases hq
      | true =>
        rw [hc, cond_true] at hq
        rw [decide_eq_true_eq] at hc
        obtain ⟨rfl, rfl, h1, h2, h3⟩ := hc
        obtain rfl := List.eq_nil_of_length_eq_zero h3
        cases hq
        exact md_loop nn rd xs k h1 h2 0 (Nat.zero_le _)
    · cases hq
  · cases hg
def mdN (xs : List Int) : Nat := (foldI minI (Int.ofNat xs.length) [319]).toNat - 0
theorem made_eval (nn : Bool) (xs : List Int) : evalFn Tryd.prog (orcS tabS plainL) (mdL nn) 100 23 Tryd.f23 [.gs 0] [.rs nn 1 (.ints .u8 xs)] lastK =
    bif decide (0 ≤ (0 : Int) ∧ 0 ≤ foldI minI (Int.ofNat xs.length) [319] ∧ foldI minI (Int.ofNat xs.length) [319] ≤ Int.ofNat xs.length) then
      cond (codesB [(mdLp, mdLp)]) (bif decide (Int.ofNat (mdN xs) = ((mdN xs : Nat) : Int) ∧ (0 : Int) = 0 ∧ mdN xs ≤ xs.length ∧ mdN xs ≤ 319 ∧ 0 = 0) then some (false, 5, 1, .ints .u8 ((xs.take (mdN xs)).map fun c => c.tmod 38)) else none) none else none := by cases nn <;> kernel_rfl
theorem made_fn (nn : Bool) (xs : List Int) : FnOK Tryd.prog 23 [.gs 0] [.rs nn 1 (.ints .u8 xs)] (.gs 1) ([.rs nn 1 (.ints .u8 xs)] ++ [.grow false 5 1 (.ints .u8 (mdF xs))]) := by
  have cd : codesB [(mdLp, mdLp)] = true := by rw [codesB_iff]; intro x hx; simp at hx; rw [hx]
  have hm : foldI minI (Int.ofNat xs.length) [319] = ((min xs.length 319 : Nat) : Int) := by
    show minI (Int.ofNat xs.length) 319 = _
    unfold minI
    show _ = ((min xs.length 319 : Nat) : Int)
    have e : Int.ofNat xs.length = (xs.length : Int) := rfl
    rw [e]
    by_cases h : (xs.length : Int) ≤ 319
    · simp only [cond_eq_ite, decide_eq_true_eq]
      split <;> omega
    · simp only [cond_eq_ite, decide_eq_true_eq]
      split <;> omega
  have hN : mdN xs = min xs.length 319 := by
    unfold mdN
    rw [hm]; omega
  have he := made_eval nn xs
  rw [hm, cd, hN, decide_eq_true (show 0 ≤ (0 : Int) ∧ 0 ≤ ((min xs.length 319 : Nat) : Int) ∧ ((min xs.length 319 : Nat) : Int) ≤ Int.ofNat xs.length from ⟨by omega, by omega, by show ((min xs.length 319 : Nat) : Int) ≤ (xs.length : Int); omega⟩),
    decide_eq_true (show Int.ofNat (min xs.length 319) = ((min xs.length 319 : Nat) : Int) ∧ (0 : Int) = 0 ∧ min xs.length 319 ≤ xs.length ∧ min xs.length 319 ≤ 319 ∧ 0 = 0 from ⟨rfl, rfl, by omega, by omega, rfl⟩)] at he
  have ht : xs.take (min xs.length 319) = xs.take 319 := by
    rcases Nat.le_total xs.length 319 with h | h
    · rw [Nat.min_eq_left h, List.take_length, List.take_of_length_le h]
    · rw [Nat.min_eq_right h]
  rw [ht] at he
  obtain ⟨v1, h1, hk, hok⟩ := evalFn_ok (orcS_ok tabS_ok plainL_ok) mixed Tryd.func23 (mdL_ok nn) he
  exact lastK_fn hk hok rfl one_ro
end Go.Proofs.YtpehklboickdpaaDoor
