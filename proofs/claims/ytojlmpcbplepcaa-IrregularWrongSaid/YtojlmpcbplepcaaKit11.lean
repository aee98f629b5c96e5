/- Chapter 10: slices.IndexFunc, slices.ContainsFunc with the law's function; Lead. -/
import Derived.Test.YtojlmpcbplepcaaKit10
import Derived.Test.YtojlmpcbplepcaaDp
namespace Go.Proofs.Ytojlmpcbplepcaa
open Go Go.Eng
noncomputable def cfLp : Code := loopOf 2 Try.f53
def cfT : Tm := ⟨mkS [(0, .gs 0), (1, .func 22 []), (4, .int .i64), (7, .int .i64), (8, .int .i64)] 0 19, [.rs false 1 (.ints .u8)], []⟩
def cfX : Tm := ⟨mkS [(4, .int .i64)] 0 19, [.rs false 1 (.ints .u8)], []⟩
theorem cf_round (rd : Option Nat) (z n i : Int) (xs : List Int) : roundT Try.prog (orcE emptyTab plainL) noLoops 100 1 rd 53 cfLp cfT cfX [.i z, .i n, .i i, .l xs] =
    bif decide (i < n) then atU xs i (fun x => bif !decide (x = 0) then some (.ret, [.i i, .l xs], []) else some (.normal, [.i z, .i n, .i (wr .i64 (i + 1)), .l xs], [])) else some (.exit 0, [.i z, .l xs], []) := by kernel_rfl
/-- The first call that is no pass. -/
def npR : List Int → Nat → Int
  | [], _ => -1
  | x :: r, i => bif decide (x = 0) then npR r (i + 1) else (i : Int)
def cfFin (z : Int) (xs : List Int) : List Int → Nat → XE × List PV
  | [], _ => (.exit 0, [.i z, .l xs])
  | x :: r, i => bif decide (x = 0) then cfFin z xs r (i + 1) else (.ret, [.i (i : Int), .l xs])
theorem cf_loop (rd : Option Nat) (z : Int) (xs : List Int) (hs : xs.length ≤ 1000000) : ∀ i : Nat, i ≤ xs.length →
    SimC Try.prog 1 rd (.loop cfLp) (cfT.at [.i z, .i (xs.length : Int), .i (i : Int), .l xs]) (cfFin z xs (xs.drop i) i).1 (cfX.at (cfFin z xs (xs.drop i) i).2) := by
  refine loop_of_rounds (C := orcE emptyTab plainL) (L := noLoops) (N := 100) (me := 53) (T := cfT) (T' := cfX) (orcE_ok emptyTab_ok plainL_ok) mixed noLoops_ok (by kernel_rfl) (by kernel_rfl) (X := Nat)
    (fun i => [.i z, .i (xs.length : Int), .i (i : Int), .l xs]) (fun i => i ≤ xs.length) (fun i => xs.length - i) (fun i => cfFin z xs (xs.drop i) i) ?_
  intro i hi
  have h := cf_round rd z (xs.length : Int) (i : Int) xs
  rcases Nat.lt_or_ge i xs.length with hlt | hge
  · rw [decide_eq_true (show (i : Int) < (xs.length : Int) by omega), cond_true, atU_at hlt, wr64 (by omega) (by omega)] at h
    rw [List.drop_eq_getElem_cons hlt]
    simp only [cfFin]
    by_cases hb : xs[i] = 0
    · rw [decide_eq_true hb] at h ⊢
      exact ⟨_, _, _, h, codes0, .inl ⟨rfl, i + 1, rfl, by omega, by omega, rfl⟩⟩
    · rw [decide_eq_false hb] at h ⊢
      exact ⟨_, _, _, h, codes0, .inr ⟨by simp, rfl⟩⟩
  · rw [decide_eq_false (show ¬ (i : Int) < (xs.length : Int) by omega), cond_false] at h
    refine ⟨_, _, _, h, codes0, .inr ⟨by simp, ?_⟩⟩
    rw [List.drop_eq_nil_of_le (by omega)]; rfl
theorem cfFin_is (z : Int) (xs : List Int) : ∀ (r : List Int) (i : Nat), (npR r i = -1 ∧ cfFin z xs r i = (.exit 0, [.i z, .l xs])) ∨ (0 ≤ npR r i ∧ cfFin z xs r i = (.ret, [.i (npR r i), .l xs]))
  | [], _ => .inl ⟨rfl, rfl⟩
  | x :: r, i => by
    simp only [npR, cfFin]
    cases decide (x = 0) with
    | true => exact cfFin_is z xs r (i + 1)
    | false => exact .inr ⟨by show (0 : Int) ≤ (i : Int); omega, rfl⟩
theorem npR_all : ∀ (r : List Int) (i : Nat), npR r i = -1 ↔ ∀ x ∈ r, x = 0
  | [], _ => by simp [npR]
  | x :: r, i => by
    simp only [npR]
    by_cases h : x = 0
    · rw [decide_eq_true h, cond_true, npR_all r (i + 1)]; simp [h]
    · rw [decide_eq_false h]
      constructor
      · intro e; have e : (i : Int) = -1 := e; omega
      · intro e; exact absurd (e x (by simp)) h
noncomputable def cfTree : List PV → Fin
  | [.i z, .i n, .i i, .l xs] => .br (decide (n = Int.ofNat xs.length ∧ i = 0 ∧ xs.length ≤ 1000000)) (.br (decide (0 ≤ npR xs 0)) (.leaf .ret (cfX.at [.i (npR xs 0), .l xs])) (.leaf (.exit 0) (cfX.at [.i z, .l xs]))) .no
  | _ => .no
noncomputable def cfL : Loops := sums (fun n => match n with | 2 => some (lsumF 1 cfT cfLp cfTree) | _ => none)
theorem cfL_ok : loopsOk Try.prog cfL := by
  intro n g hg
  simp only [cfL, sums] at hg
  split at hg
  · cases hg
    refine lsumF_ok (by kernel_rfl) (fun rd ps e1 st1 hq => ?_)
    unfold cfTree at hq
    split at hq
    · rename_i z n i xs
      simp only [Fin.pick] at hq
      cases hc : decide (n = Int.ofNat xs.length ∧ i = 0 ∧ xs.length ≤ 1000000) with
      | false => rw [hc] at hq; cases hq
      | true =>
        rw [hc, cond_true] at hq
        rw [decide_eq_true_eq] at hc
        obtain ⟨rfl, rfl, h2⟩ := hc
        have := cf_loop rd z xs h2 0 (Nat.zero_le _)
        rw [show xs.drop 0 = xs from rfl] at this
        rcases cfFin_is z xs xs 0 with ⟨q1, q2⟩ | ⟨q1, q2⟩
        · rw [q2] at this; rw [q1, decide_eq_false (by omega)] at hq; cases hq; exact this
        · rw [q2] at this; rw [decide_eq_true q1] at hq; cases hq; exact this
    · cases hq
  · cases hg
theorem idxf_eval (xs : List Int) : evalFn Try.prog (orcE emptyTab plainL) cfL 100 53 Try.f53 [.gs 0, .func 22 []] [.rs false 1 (.ints .u8 xs)] (fun v _ => some v) =
    cond (codesB [(cfLp, cfLp)]) (bif decide (Int.ofNat xs.length = Int.ofNat xs.length ∧ (0 : Int) = 0 ∧ xs.length ≤ 1000000) then bif decide (0 ≤ npR xs 0) then some (.int .i64 (npR xs 0)) else some (.int .i64 (-1)) else none) none := by kernel_rfl
theorem idxf_fn (nn : Bool) {xs : List Int} (hs : xs.length ≤ 1000000) : FnOK Try.prog 53 [.gs 0, .func 22 []] [.rs nn 1 (.ints .u8 xs)] (.int .i64 (npR xs 0)) ([.rs nn 1 (.ints .u8 xs)] ++ []) := by
  have key := idxf_eval xs
  rw [lpCd10, decide_eq_true ⟨rfl, rfl, hs⟩] at key
  have e : (cond true (bif true then bif decide (0 ≤ npR xs 0) then some (V.int .i64 (npR xs 0)) else some (.int .i64 (-1)) else none) none) = some (V.int .i64 (npR xs 0)) := by
    rcases cfFin_is 0 xs xs 0 with ⟨q1, _⟩ | ⟨q1, _⟩
    · rw [q1]; rfl
    · rw [decide_eq_true q1]; rfl
  rw [e] at key
  obtain ⟨v1, h1, hk, hok⟩ := evalFn_ok (orcE_ok emptyTab_ok plainL_ok) mixed Try.func53 cfL_ok key
  cases hk
  exact FnOK.hard rfl (by rw [List.append_nil]; exact hok.plain rfl rs_ro)
def hIdxf : CH
  | [.gs 0, .func 22 []], [.rs _ 1 (.ints .u8 xs)] => some (decide (xs.length ≤ 1000000), .int .i64 (npR xs 0), [])
  | _, _ => none
theorem hIdxf_ok : HTabOk Try.prog (addH 53 hIdxf emptyH) := by
  refine addH_ok ?_ emptyH_ok
  intro args hp c v nb hq hc
  unfold hIdxf at hq
  split at hq
  · cases hq; exact ⟨.of Try.func53 (by kernel_rfl), idxf_fn _ (of_decide_eq_true hc)⟩
  · cases hq
noncomputable abbrev orcCf : Oracle := inl Try.prog ftab emptyTab plainL 100 never (fun f => Nat.beq f 53) (hOrcX nr8 (addH 53 hIdxf emptyH)) 20
theorem orcCf_ok : OracleOk Try.prog orcCf := inl_ok (hOrcX_ok hIdxf_ok) ftab_ok emptyTab_ok plainL_ok mixed 20
theorem conf_eval (xs : List Int) : evalFn Try.prog orcCf noLoops 100 21 Try.f21 [.gs 0, .func 22 []] [.rs false 1 (.ints .u8 xs)] (fun v _ => some v) = bif decide (xs.length ≤ 1000000) then some (.bool (decide (0 ≤ npR xs 0))) else none := by kernel_rfl
def anyN (xs : List Int) : Bool := decide (0 ≤ npR xs 0)
theorem anyN_false {xs : List Int} (h : ∀ x ∈ xs, x = 0) : anyN xs = false := by
  unfold anyN
  rw [(npR_all xs 0).2 h]; rfl
theorem conf_fn (nn : Bool) {xs : List Int} (hs : xs.length ≤ 1000000) : FnOK Try.prog 21 [.gs 0, .func 22 []] [.rs nn 1 (.ints .u8 xs)] (.bool (anyN xs)) ([.rs nn 1 (.ints .u8 xs)] ++ []) := by
  have key := conf_eval xs
  rw [decide_eq_true hs] at key
  obtain ⟨v1, h1, hk, hok⟩ := evalFn_ok orcCf_ok mixed Try.func21 noLoops_ok key
  cases hk
  exact FnOK.hard rfl (by rw [List.append_nil]; exact hok.plain rfl rs_ro)
end Go.Proofs.Ytojlmpcbplepcaa
