/- Chapter 10: over, free, low, passed: their contracts. -/
import Derived.Test.YtojlmpcbplepcaaIr1
import Derived.Test.YtojlmpcbplepcaaHist
namespace Go.Proofs.Ytojlmpcbplepcaa
open Go Go.Eng
def atN {α : Type} (l : List Int) (i : Nat) (K : Int → Option α) : Option α := match l[i]? with | some v => K v | none => none
noncomputable def overE (N : NI) (d : Int) (xs ys : List Int) : Option V := bif N.K (N.MK d (N.LI xs)) ys then some (.bool (N.OB (N.MK d (N.LI xs)) ys)) else none
def tl (N : NI) (xs : List Int) : List Int := List.take ((Int.ofNat xs.length).toNat - (N.LI xs).toNat) (List.drop (N.LI xs).toNat xs)
theorem over_eval10 (N : NI) (nn : Bool) (d : Int) (xs : List Int) : evalFn Try.prog (orcI N (tabI N) plainL) noLoops 100 36 Try.f36 [.int .u8 d, .gs 0] [.rs nn 1 (.ints .u8 xs)] (fun v _ => some v) =
    bif N.KS xs then bif decide (0 ≤ N.LI xs ∧ N.LI xs ≤ Int.ofNat xs.length ∧ Int.ofNat xs.length ≤ Int.ofNat xs.length) then bif decide ((N.LI xs).toNat + ((Int.ofNat xs.length).toNat - (N.LI xs).toNat) ≤ xs.length) then overE N d xs (tl N xs) else none else none else none := by cases nn <;> kernel_rfl
noncomputable def freeE (N : NI) (d x : Int) (xs ys : List Int) : Option V := bif decide (ys.length * 2 ≤ 70368744177664) then bif decide ((ys ++ [x]).length * 2 ≤ 70368744177664) then
  bif N.K (N.MK d (N.LI xs)) (ys ++ [x]) then some (.bool (decide (N.CE (N.MK d (N.LI xs)) (ys ++ [x]) = 0))) else none else none else none
theorem free_eval (N : NI) (nn : Bool) (d x : Int) (xs : List Int) : evalFn Try.prog (orcI N (tabI N) plainL) noLoops 100 40 Try.f40 [.int .u8 d, .gs 0, .int .u8 x] [.rs nn 1 (.ints .u8 xs)] (fun v _ => some v) =
    bif N.KS xs then bif decide (0 ≤ N.LI xs ∧ N.LI xs ≤ Int.ofNat xs.length ∧ Int.ofNat xs.length ≤ Int.ofNat xs.length) then bif decide ((N.LI xs).toNat + ((Int.ofNat xs.length).toNat - (N.LI xs).toNat) ≤ xs.length) then freeE N d x xs (tl N xs) else none else none else none := by cases nn <;> kernel_rfl
theorem low_eval (N : NI) (nn : Bool) (x : Int) (xs : List Int) : evalFn Try.prog (orcI N (tabI N) plainL) noLoops 100 39 Try.f39 [.gs 0, .int .u8 x] [.rs nn 1 (.ints .u8 xs)] (fun v _ => some v) =
    bif N.KS xs then bif isBid x then bif N.LB xs then bif decide (0 ≤ N.LI xs ∧ N.LI xs < Int.ofNat xs.length) then atN xs (N.LI xs).toNat fun c => some (.bool (decide (x ≤ c))) else none else some (.bool false) else some (.bool false) else none := by cases nn <;> kernel_rfl
theorem passed_eval (N : NI) (nn : Bool) (xs : List Int) : evalFn Try.prog (orcI N (tabI N) plainL) noLoops 100 49 Try.f49 [.gs 0] [.rs nn 1 (.ints .u8 xs)] (fun v _ => some v) =
    bif decide (Int.ofNat xs.length = 0) then some (.bool true) else bif decide (0 ≤ wr .i64 (Int.ofNat xs.length - 1) ∧ wr .i64 (Int.ofNat xs.length - 1) < Int.ofNat xs.length) then atN xs (wr .i64 (Int.ofNat xs.length - 1)).toNat fun c => some (.bool (decide (c = 0))) else none := by cases nn <;> kernel_rfl
/-! ### plainly -/
/-- Lists of calls that are not too long. -/
def okL (xs : List Int) : Bool := decide (xs.length ≤ 100000) && allU xs
def lastI (xs : List Int) : Int := (lastN xs xs.length).1
def hasB (xs : List Int) : Bool := (lastN xs xs.length).2
def rcD (d : Int) (xs : List Int) : Int := mkI d (lastI xs)
def rcL (xs : List Int) : List Int := xs.drop (lastI xs).toNat
def ovI (d : Int) (xs : List Int) : Bool := decide ((fol (rcD d xs) (rcL xs)).e = 0) && ovr (fol (rcD d xs) (rcL xs)).s
def frI (d : Int) (xs : List Int) (x : Int) : Bool := decide ((fol (rcD d xs) (rcL xs ++ [x])).e = 0)
def lwI (xs : List Int) (x : Int) : Bool := isBid x && (hasB xs && decide (x ≤ xs.getD (lastI xs).toNat 0))
def psI (xs : List Int) : Bool := decide (xs.length = 0) || decide (xs.getD (xs.length - 1) 0 = 0)
theorem mk_range (d i : Int) : 0 ≤ mkI d i ∧ mkI d i < 256 := by
  unfold mkI
  show 0 ≤ _ % 256 ∧ _ % 256 < 256
  omega
theorem lastI_range (xs : List Int) : 0 ≤ lastI xs ∧ (lastI xs < (xs.length : Int) ∨ lastI xs = 0) ∧ (hasB xs = true → lastI xs < (xs.length : Int)) ∧ (hasB xs = false → lastI xs = 0) := by
  unfold lastI hasB
  cases h : (lastN xs xs.length).2 with
  | true =>
    obtain ⟨k, h1, h2, _, _⟩ := lastN_some _ h
    rw [h2]
    exact ⟨by omega, .inl (by omega), fun _ => by omega, fun h => by cases h⟩
  | false =>
    have := last_no xs _ h
    exact ⟨by omega, .inr this, (fun h => by cases h), fun _ => this⟩
theorem allU_drop {l : List Int} (h : allU l = true) (n : Nat) : allU (l.drop n) = true := by
  rw [allU_iff] at h ⊢
  exact fun x hx => h x (List.mem_of_mem_drop hx)
theorem allU_snoc {l : List Int} {x : Int} (h : allU l = true) (hx : 0 ≤ x ∧ x < 256) : allU (l ++ [x]) = true := by
  rw [allU_iff] at h ⊢
  intro y hy
  rcases List.mem_append.1 hy with hy | hy
  · exact h y hy
  · rw [List.mem_singleton] at hy; subst hy; exact hx
theorem okL_iff {xs : List Int} : okL xs = true ↔ xs.length ≤ 100000 ∧ allU xs = true := by simp [okL]
theorem okA_of {d : Int} {xs : List Int} (hd : 0 ≤ d) (h : xs.length ≤ 200000) (hu : allU xs = true) : okA d xs = true := by
  simp only [okA, smallL, Bool.and_eq_true, decide_eq_true_eq]
  exact ⟨hd, by omega, hu⟩
theorem tl_is (xs : List Int) : tl nI xs = rcL xs := by
  show List.take (xs.length - (lastI xs).toNat) (List.drop (lastI xs).toNat xs) = List.drop (lastI xs).toNat xs
  rw [List.take_of_length_le]
  rw [List.length_drop]; omega
theorem rcL_len (xs : List Int) : (rcL xs).length ≤ xs.length := by unfold rcL; rw [List.length_drop]; omega
theorem sm_of {xs : List Int} (h : xs.length ≤ 100000) : nI.KS xs = true := decide_eq_true (by omega)
theorem d1_of (xs : List Int) : decide (0 ≤ nI.LI xs ∧ nI.LI xs ≤ Int.ofNat xs.length ∧ Int.ofNat xs.length ≤ Int.ofNat xs.length) = true ∧ decide ((nI.LI xs).toNat + ((Int.ofNat xs.length).toNat - (nI.LI xs).toNat) ≤ xs.length) = true := by
  have := lastI_range xs
  have h0 : nI.LI xs = lastI xs := rfl
  have h1 : Int.ofNat xs.length = (xs.length : Int) := rfl
  rw [h0, h1]
  exact ⟨decide_eq_true (by omega), decide_eq_true (by omega)⟩
theorem over36_fn (nn : Bool) {d : Int} {xs : List Int} (h : okL xs = true) : FnOK Try.prog 36 [.int .u8 d, .gs 0] [.rs nn 1 (.ints .u8 xs)] (.bool (ovI d xs)) [.rs nn 1 (.ints .u8 xs)] := by
  obtain ⟨hl, hu⟩ := okL_iff.1 h
  have key := over_eval10 nI nn d xs
  rw [sm_of hl, (d1_of xs).1, (d1_of xs).2, tl_is] at key
  have hk : nI.K (nI.MK d (nI.LI xs)) (rcL xs) = true := okA_of (mk_range _ _).1 (by have := rcL_len xs; omega) (allU_drop hu _)
  unfold overE at key
  rw [hk] at key
  obtain ⟨v1, h1, hk1, hok⟩ := evalFn_ok (orcI_ok tabI_ok plainL_ok) mixed Try.func36 noLoops_ok key
  cases hk1
  exact hok.plain rfl rs_ro
theorem free40_fn (nn : Bool) {d x : Int} {xs : List Int} (h : okL xs = true) (hx : 0 ≤ x ∧ x < 256) : FnOK Try.prog 40 [.int .u8 d, .gs 0, .int .u8 x] [.rs nn 1 (.ints .u8 xs)] (.bool (frI d xs x)) [.rs nn 1 (.ints .u8 xs)] := by
  obtain ⟨hl, hu⟩ := okL_iff.1 h
  have key := free_eval nI nn d x xs
  rw [sm_of hl, (d1_of xs).1, (d1_of xs).2, tl_is] at key
  have hr := rcL_len xs
  have hk : nI.K (nI.MK d (nI.LI xs)) (rcL xs ++ [x]) = true := okA_of (mk_range _ _).1 (by simp; omega) (allU_snoc (allU_drop hu _) hx)
  unfold freeE at key
  rw [decide_eq_true (show (rcL xs).length * 2 ≤ 70368744177664 by omega), decide_eq_true (show (rcL xs ++ [x]).length * 2 ≤ 70368744177664 by simp; omega), hk] at key
  obtain ⟨v1, h1, hk1, hok⟩ := evalFn_ok (orcI_ok tabI_ok plainL_ok) mixed Try.func40 noLoops_ok key
  cases hk1
  exact hok.plain rfl rs_ro
theorem atN_get {α : Type} {l : List Int} {i : Nat} (h : i < l.length) (K : Int → Option α) : atN l i K = K (l.getD i 0) := by
  unfold atN; rw [List.getElem?_eq_getElem h, List.getD_eq_getElem?_getD, List.getElem?_eq_getElem h]; rfl
theorem low39_fn (nn : Bool) {x : Int} {xs : List Int} (h : okL xs = true) : FnOK Try.prog 39 [.gs 0, .int .u8 x] [.rs nn 1 (.ints .u8 xs)] (.bool (lwI xs x)) [.rs nn 1 (.ints .u8 xs)] := by
  obtain ⟨hl, hu⟩ := okL_iff.1 h
  have key := low_eval nI nn x xs
  have hr := lastI_range xs
  have e : (bif isBid x then bif nI.LB xs then bif decide (0 ≤ nI.LI xs ∧ nI.LI xs < Int.ofNat xs.length) then atN xs (nI.LI xs).toNat fun c => some (V.bool (decide (x ≤ c))) else none else some (.bool false) else some (.bool false)) = some (.bool (lwI xs x)) := by
    unfold lwI
    cases isBid x with
    | false => rfl
    | true =>
      rw [show nI.LB xs = hasB xs from rfl, show nI.LI xs = lastI xs from rfl]
      cases hb : hasB xs with
      | false => rfl
      | true =>
        have := hr.2.2.1 hb
        rw [decide_eq_true (show 0 ≤ lastI xs ∧ lastI xs < Int.ofNat xs.length from ⟨hr.1, this⟩), cond_true, cond_true, cond_true, atN_get (by omega)]
        rfl
  rw [sm_of hl, cond_true, e] at key
  obtain ⟨v1, h1, hk1, hok⟩ := evalFn_ok (orcI_ok tabI_ok plainL_ok) mixed Try.func39 noLoops_ok key
  cases hk1
  exact hok.plain rfl rs_ro
theorem passed49_fn (nn : Bool) {xs : List Int} (h : okL xs = true) : FnOK Try.prog 49 [.gs 0] [.rs nn 1 (.ints .u8 xs)] (.bool (psI xs)) [.rs nn 1 (.ints .u8 xs)] := by
  obtain ⟨hl, hu⟩ := okL_iff.1 h
  have key := passed_eval nI nn xs
  have h1 : Int.ofNat xs.length = (xs.length : Int) := rfl
  have e : (bif decide (Int.ofNat xs.length = 0) then some (V.bool true) else bif decide (0 ≤ wr .i64 (Int.ofNat xs.length - 1) ∧ wr .i64 (Int.ofNat xs.length - 1) < Int.ofNat xs.length) then atN xs (wr .i64 (Int.ofNat xs.length - 1)).toNat fun c => some (.bool (decide (c = 0))) else none) = some (.bool (psI xs)) := by
    unfold psI
    rw [h1]
    by_cases h0 : xs.length = 0
    · rw [decide_eq_true h0, decide_eq_true (show ((xs.length : Nat) : Int) = 0 by omega)]; rfl
    · rw [decide_eq_false h0, decide_eq_false (show ¬ ((xs.length : Nat) : Int) = 0 by omega), wr64 (by omega) (by omega), decide_eq_true (show 0 ≤ (xs.length : Int) - 1 ∧ (xs.length : Int) - 1 < (xs.length : Int) by omega), cond_false, cond_true,
        show ((xs.length : Int) - 1).toNat = xs.length - 1 by omega, atN_get (by omega)]
      rfl
  rw [e] at key
  obtain ⟨v1, h1, hk1, hok⟩ := evalFn_ok (orcI_ok tabI_ok plainL_ok) mixed Try.func49 noLoops_ok key
  cases hk1
  exact hok.plain rfl rs_ro
end Go.Proofs.Ytojlmpcbplepcaa
