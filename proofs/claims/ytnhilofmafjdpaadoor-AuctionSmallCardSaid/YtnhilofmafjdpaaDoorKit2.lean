/- Chapter 9: small helpers of the library and of the verifier: their contracts. -/
import Derived.Test.YtnhilofmafjdpaaDoorRL
namespace Go.Proofs.YtnhilofmafjdpaaDoor
open Go Go.Eng
def eqI : List Int → List Int → Bool
  | [], [] => true
  | x :: r, y :: q => decide (x = y) && eqI r q
  | _, _ => false
theorem eqI_iff : ∀ {l r : List Int}, eqI l r = true ↔ l = r
  | [], [] => by simp [eqI]
  | [], _ :: _ => by simp [eqI]
  | _ :: _, [] => by simp [eqI]
  | x :: l, y :: r => by simp [eqI, eqI_iff (l := l) (r := r)]
theorem eqI_len {l r : List Int} (h : l.length ≠ r.length) : eqI l r = false := by
  cases hh : eqI l r with
  | false => rfl
  | true => exact absurd (congrArg List.length (eqI_iff.1 hh)) h
def eqS : List ByteArray → List ByteArray → Bool
  | [], [] => true
  | x :: r, y :: q => strEq x y && eqS r q
  | _, _ => false
theorem eqS_len {l r : List ByteArray} (h : l.length ≠ r.length) : eqS l r = false := by
  induction l generalizing r with
  | nil => cases r with
    | nil => exact absurd rfl h
    | cons y q => rfl
  | cons x l ih => cases r with
    | nil => rfl
    | cons y q =>
      simp only [eqS]
      rw [ih (fun e => h (by simp [e])), Bool.and_false]
theorem atS_at {α : Type} {l : List ByteArray} {i : Nat} (h : i < l.length) {K : ByteArray → Option α} : atS l (i : Int) K = K l[i] := by
  unfold atS
  rw [decide_eq_true (show 0 ≤ (i : Int) ∧ (i : Int) < Int.ofNat l.length from ⟨by omega, by show (i : Int) < (l.length : Int); omega⟩), cond_true, show ((i : Int)).toNat = i from rfl, List.getElem?_eq_getElem h]
def sbFin (b : Bool) (p q : PV) (r : Bool) : XE × List PV := (if r = true then .exit 0 else .ret, [.b (if r = true then b else false), p, q])
theorem sb_loop (n1 n2 : Bool) (rd : Option Nat) (xs ys : List Int) (b : Bool) (hl : xs.length = ys.length) (hs : xs.length ≤ 1000000) : ∀ i : Nat, i ≤ xs.length →
    SimC Tryd.prog 2 rd (.loop sbLp) ((sbT n1 n2).at [.b b, .i (i : Int), .l xs, .l ys]) (sbFin b (.l xs) (.l ys) (eqI (xs.drop i) (ys.drop i))).1 ((sbX n1 n2).at (sbFin b (.l xs) (.l ys) (eqI (xs.drop i) (ys.drop i))).2) := by
  refine loop_of_rounds (C := orcE emptyTab plainL) (L := noLoops) (N := 100) (me := 30) (T := sbT n1 n2) (T' := sbX n1 n2) (orcE_ok emptyTab_ok plainL_ok) mixed noLoops_ok (by cases n1 <;> cases n2 <;> kernel_rfl) (by cases n1 <;> cases n2 <;> kernel_rfl) (X := Nat)
    (fun i => [.b b, .i (i : Int), .l xs, .l ys]) (fun i => i ≤ xs.length) (fun i => xs.length - i) (fun i => sbFin b (.l xs) (.l ys) (eqI (xs.drop i) (ys.drop i))) ?_
  intro i hi
  have h := sb_round n1 n2 rd xs ys b (i : Int)
  rcases Nat.lt_or_ge i xs.length with hlt | hge
  · rw [decide_eq_true (show (i : Int) < Int.ofNat xs.length by show (i : Int) < (xs.length : Int); omega), cond_true, atU_at hlt, atU_at (show i < ys.length by omega), wr64 (by omega) (by omega)] at h
    have e : eqI (xs.drop i) (ys.drop i) = (decide (xs[i] = ys[i]) && eqI (xs.drop (i + 1)) (ys.drop (i + 1))) := by
      rw [List.drop_eq_getElem_cons hlt, List.drop_eq_getElem_cons (show i < ys.length by omega)]; rfl
    rw [e]
    by_cases hb : xs[i] = ys[i]
    · rw [decide_eq_true hb] at h ⊢
      exact ⟨_, _, _, h, codes0, .inl ⟨rfl, i + 1, rfl, by omega, by omega, by rw [Bool.true_and]⟩⟩
    · rw [decide_eq_false hb] at h ⊢
      exact ⟨_, _, _, h, codes0, .inr ⟨by simp, rfl⟩⟩
  · rw [decide_eq_false (show ¬ (i : Int) < Int.ofNat xs.length from fun h => by have : (i : Int) < (xs.length : Int) := h; omega), cond_false] at h
    refine ⟨_, _, _, h, codes0, .inr ⟨by simp, ?_⟩⟩
    rw [List.drop_eq_nil_of_le (by omega), List.drop_eq_nil_of_le (by omega)]; rfl
theorem ss_loop (n1 n2 : Bool) (rd : Option Nat) (xs ys : List ByteArray) (b : Bool) (hl : xs.length = ys.length) (hs : xs.length ≤ 1000000) : ∀ i : Nat, i ≤ xs.length →
    SimC Tryd.prog 2 rd (.loop ssLp) ((ssT n1 n2).at [.b b, .i (i : Int), .ss xs, .ss ys]) (sbFin b (.ss xs) (.ss ys) (eqS (xs.drop i) (ys.drop i))).1 ((ssX n1 n2).at (sbFin b (.ss xs) (.ss ys) (eqS (xs.drop i) (ys.drop i))).2) := by
  refine loop_of_rounds (C := orcE emptyTab plainL) (L := noLoops) (N := 100) (me := 34) (T := ssT n1 n2) (T' := ssX n1 n2) (orcE_ok emptyTab_ok plainL_ok) mixed noLoops_ok (by cases n1 <;> cases n2 <;> kernel_rfl) (by cases n1 <;> cases n2 <;> kernel_rfl) (X := Nat)
    (fun i => [.b b, .i (i : Int), .ss xs, .ss ys]) (fun i => i ≤ xs.length) (fun i => xs.length - i) (fun i => sbFin b (.ss xs) (.ss ys) (eqS (xs.drop i) (ys.drop i))) ?_
  intro i hi
  have h := ss_round n1 n2 rd xs ys b (i : Int)
  rcases Nat.lt_or_ge i xs.length with hlt | hge
  · rw [decide_eq_true (show (i : Int) < Int.ofNat xs.length by show (i : Int) < (xs.length : Int); omega), cond_true, atS_at hlt, atS_at (show i < ys.length by omega), wr64 (by omega) (by omega)] at h
    have e : eqS (xs.drop i) (ys.drop i) = (strEq xs[i] ys[i] && eqS (xs.drop (i + 1)) (ys.drop (i + 1))) := by
      rw [List.drop_eq_getElem_cons hlt, List.drop_eq_getElem_cons (show i < ys.length by omega)]; rfl
    rw [e]
    cases hb : strEq xs[i] ys[i] with
    | true =>
      rw [hb] at h
      exact ⟨_, _, _, h, codes0, .inl ⟨rfl, i + 1, rfl, by omega, by omega, by rw [Bool.true_and]⟩⟩
    | false =>
      rw [hb] at h
      exact ⟨_, _, _, h, codes0, .inr ⟨by simp, rfl⟩⟩
  · rw [decide_eq_false (show ¬ (i : Int) < Int.ofNat xs.length from fun h => by have : (i : Int) < (xs.length : Int) := h; omega), cond_false] at h
    refine ⟨_, _, _, h, codes0, .inr ⟨by simp, ?_⟩⟩
    rw [List.drop_eq_nil_of_le (by omega), List.drop_eq_nil_of_le (by omega)]; rfl
/-- The index of a number, -1 if it is not there. -/
def idxR (c : Int) : List Int → Nat → Int
  | [], _ => -1
  | x :: r, i => bif decide (c = x) then (i : Int) else idxR c r (i + 1)
def ixFin (c z : Int) (xs : List Int) : List Int → Nat → XE × List PV
  | [], _ => (.exit 0, [.i z, .l xs])
  | x :: r, i => bif decide (c = x) then (.ret, [.i (i : Int), .l xs]) else ixFin c z xs r (i + 1)
theorem ix_loop (nn : Bool) (rd : Option Nat) (c z : Int) (xs : List Int) (hs : xs.length ≤ 1000000) : ∀ i : Nat, i ≤ xs.length →
    SimC Tryd.prog 1 rd (.loop ixLp) ((ixT nn).at [.i c, .i z, .i (xs.length : Int), .i (i : Int), .l xs]) (ixFin c z xs (xs.drop i) i).1 ((ixX nn).at (ixFin c z xs (xs.drop i) i).2) := by
  refine loop_of_rounds (C := orcE emptyTab plainL) (L := noLoops) (N := 100) (me := 51) (T := ixT nn) (T' := ixX nn) (orcE_ok emptyTab_ok plainL_ok) mixed noLoops_ok (by cases nn <;> kernel_rfl) (by cases nn <;> kernel_rfl) (X := Nat)
    (fun i => [.i c, .i z, .i (xs.length : Int), .i (i : Int), .l xs]) (fun i => i ≤ xs.length) (fun i => xs.length - i) (fun i => ixFin c z xs (xs.drop i) i) ?_
  intro i hi
  have h := ix_round nn rd c z (xs.length : Int) (i : Int) xs
  rcases Nat.lt_or_ge i xs.length with hlt | hge
  · rw [decide_eq_true (show (i : Int) < (xs.length : Int) by omega), cond_true, atU_at hlt, wr64 (by omega) (by omega)] at h
    rw [List.drop_eq_getElem_cons hlt]
    simp only [ixFin]
    by_cases hb : c = xs[i]
    · rw [decide_eq_true hb] at h ⊢
      exact ⟨_, _, _, h, codes0, .inr ⟨by simp, rfl⟩⟩
    · rw [decide_eq_false hb] at h ⊢
      exact ⟨_, _, _, h, codes0, .inl ⟨rfl, i + 1, rfl, by omega, by omega, rfl⟩⟩
  · rw [decide_eq_false (show ¬ (i : Int) < (xs.length : Int) by omega), cond_false] at h
    refine ⟨_, _, _, h, codes0, .inr ⟨by simp, ?_⟩⟩
    rw [List.drop_eq_nil_of_le (by omega)]; rfl
theorem ixFin_is (c z : Int) (xs : List Int) : ∀ (r : List Int) (i : Nat), (idxR c r i = -1 ∧ ixFin c z xs r i = (.exit 0, [.i z, .l xs])) ∨ (0 ≤ idxR c r i ∧ ixFin c z xs r i = (.ret, [.i (idxR c r i), .l xs]))
  | [], _ => .inl ⟨rfl, rfl⟩
  | x :: r, i => by
    simp only [idxR, ixFin]
    by_cases hb : c = x
    · rw [decide_eq_true hb]; exact .inr ⟨by simp only [cond_true]; omega, rfl⟩
    · rw [decide_eq_false hb]; exact ixFin_is c z xs r (i + 1)
theorem idxR_mem {c : Int} : ∀ (r : List Int) (i : Nat), 0 ≤ idxR c r i ↔ c ∈ r
  | [], _ => by simp [idxR]
  | x :: r, i => by
    simp only [idxR, List.mem_cons]
    by_cases hb : c = x
    · rw [decide_eq_true hb]; simp [hb]
    · rw [decide_eq_false hb]
      simp only [cond_false, hb, false_or]
      exact idxR_mem r (i + 1)
noncomputable def sbTree (n1 n2 : Bool) : List PV → Fin
  | [.b b, .i i, .l xs, .l ys] => .br (decide (i = 0 ∧ xs.length = ys.length ∧ xs.length ≤ 1000000)) (.br (eqI xs ys) (.leaf (.exit 0) ((sbX n1 n2).at [.b b, .l xs, .l ys])) (.leaf .ret ((sbX n1 n2).at [.b false, .l xs, .l ys]))) .no
  | _ => .no
noncomputable def ssTree (n1 n2 : Bool) : List PV → Fin
  | [.b b, .i i, .ss xs, .ss ys] => .br (decide (i = 0 ∧ xs.length = ys.length ∧ xs.length ≤ 1000000)) (.br (eqS xs ys) (.leaf (.exit 0) ((ssX n1 n2).at [.b b, .ss xs, .ss ys])) (.leaf .ret ((ssX n1 n2).at [.b false, .ss xs, .ss ys]))) .no
  | _ => .no
noncomputable def ixTree (nn : Bool) : List PV → Fin
  | [.i c, .i z, .i n, .i i, .l xs] => .br (decide (i = 0 ∧ n = Int.ofNat xs.length ∧ xs.length ≤ 1000000)) (.br (decide (0 ≤ idxR c xs 0)) (.leaf .ret ((ixX nn).at [.i (idxR c xs 0), .l xs])) (.leaf (.exit 0) ((ixX nn).at [.i z, .l xs]))) .no
  | _ => .no
noncomputable def sbL (n1 n2 : Bool) : Loops := sums (fun n => match n with | 4 => some (lsumF 2 (sbT n1 n2) sbLp (sbTree n1 n2)) | _ => none)
noncomputable def ssL (n1 n2 : Bool) : Loops := sums (fun n => match n with | 4 => some (lsumF 2 (ssT n1 n2) ssLp (ssTree n1 n2)) | _ => none)
noncomputable def ixL (nn : Bool) : Loops := sums (fun n => match n with | 2 => some (lsumF 1 (ixT nn) ixLp (ixTree nn)) | _ => none)
theorem sbL_ok (n1 n2 : Bool) : loopsOk Tryd.prog (sbL n1 n2) := by
  intro n g hg
  simp only [sbL, sums] at hg
  split at hg
  · cases hg
    refine lsumF_ok (by cases n1 <;> cases n2 <;> kernel_rfl) (fun rd ps e1 st1 hq => ?_)
    unfold sbTree at hq
    split at hq
    · rename_i b i xs ys
      simp only [Fin.pick] at hq
      cases hc : decide (i = 0 ∧ xs.length = ys.length ∧ xs.length ≤ 1000000) with
      | false => rw [hc] at hq; cases hq
      | true =>
        rw [hc, cond_true] at hq
        rw [decide_eq_true_eq] at hc
        obtain ⟨rfl, h1, h2⟩ := hc
        have := sb_loop n1 n2 rd xs ys b h1 h2 0 (Nat.zero_le _)
        rw [show xs.drop 0 = xs from rfl, show ys.drop 0 = ys from rfl] at this
        unfold sbFin at this
        cases hr : eqI xs ys with
        | true => rw [hr] at hq this; cases hq; exact this
        | false => rw [hr] at hq this; cases hq; exact this
    · cases hq
  · cases hg
theorem ssL_ok (n1 n2 : Bool) : loopsOk Tryd.prog (ssL n1 n2) := by
  intro n g hg
  simp only [ssL, sums] at hg
  split at hg
  · cases hg
    refine lsumF_ok (by cases n1 <;> cases n2 <;> kernel_rfl) (fun rd ps e1 st1 hq => ?_)
    unfold ssTree at hq
    split at hq
    · rename_i b i xs ys
      simp only [Fin.pick] at hq
      cases hc : decide (i = 0 ∧ xs.length = ys.length ∧ xs.length ≤ 1000000) with
      | false => rw [hc] at hq; cases hq
      | true =>
        rw [hc, cond_true] at hq
        rw [decide_eq_true_eq] at hc
        obtain ⟨rfl, h1, h2⟩ := hc
        have := ss_loop n1 n2 rd xs ys b h1 h2 0 (Nat.zero_le _)
        rw [show xs.drop 0 = xs from rfl, show ys.drop 0 = ys from rfl] at this
        unfold sbFin at this
        cases hr : eqS xs ys with
        | true => rw [hr] at hq this; cases hq; exact this
        | false => rw [hr] at hq this; cases hq; exact this
    · cases hq
  · cases hg
theorem ixL_ok (nn : Bool) : loopsOk Tryd.prog (ixL nn) := by
  intro n g hg
  simp only [ixL, sums] at hg
  split at hg
  · cases hg
    refine lsumF_ok (by cases nn <;> kernel_rfl) (fun rd ps e1 st1 hq => ?_)
    unfold ixTree at hq
    split at hq
    · rename_i c z n i xs
      simp only [Fin.pick] at hq
      cases hc : decide (i = 0 ∧ n = Int.ofNat xs.length ∧ xs.length ≤ 1000000) with
      | false => rw [hc] at hq; cases hq
      | true =>
        rw [hc, cond_true] at hq
        rw [decide_eq_true_eq] at hc
        obtain ⟨rfl, rfl, h2⟩ := hc
        have := ix_loop nn rd c z xs h2 0 (Nat.zero_le _)
        rw [show xs.drop 0 = xs from rfl] at this
        rcases ixFin_is c z xs xs 0 with ⟨q1, q2⟩ | ⟨q1, q2⟩
        · rw [q2] at this
          rw [decide_eq_false (by omega), cond_false] at hq
          cases hq; exact this
        · rw [q2] at this
          rw [decide_eq_true q1, cond_true] at hq
          cases hq; exact this
    · cases hq
  · cases hg
theorem sb_eval (n1 n2 : Bool) (xs ys : List Int) : evalFn Tryd.prog (orcE emptyTab plainL) (sbL n1 n2) 100 30 Tryd.f30 [.gs 0, .gs 1] [.rs n1 1 (.ints .u8 xs), .rs n2 1 (.ints .u8 ys)] (fun v _ => some v) =
    bif !decide (Int.ofNat xs.length = Int.ofNat ys.length) then some (.bool false) else cond (codesB [(sbLp, sbLp)]) (bif decide ((0 : Int) = 0 ∧ xs.length = ys.length ∧ xs.length ≤ 1000000) then bif eqI xs ys then some (.bool true) else some (.bool false) else none) none := by cases n1 <;> cases n2 <;> kernel_rfl
theorem ss_eval (n1 n2 : Bool) (xs ys : List ByteArray) : evalFn Tryd.prog (orcE emptyTab plainL) (ssL n1 n2) 100 34 Tryd.f34 [.gs 0, .gs 1] [.rs n1 1 (.strs xs), .rs n2 1 (.strs ys)] (fun v _ => some v) =
    bif !decide (Int.ofNat xs.length = Int.ofNat ys.length) then some (.bool false) else cond (codesB [(ssLp, ssLp)]) (bif decide ((0 : Int) = 0 ∧ xs.length = ys.length ∧ xs.length ≤ 1000000) then bif eqS xs ys then some (.bool true) else some (.bool false) else none) none := by cases n1 <;> cases n2 <;> kernel_rfl
theorem ix_eval (nn : Bool) (c : Int) (xs : List Int) : evalFn Tryd.prog (orcE emptyTab plainL) (ixL nn) 100 51 Tryd.f51 [.gs 0, .int .u8 c] [.rs nn 1 (.ints .u8 xs)] (fun v _ => some v) =
    cond (codesB [(ixLp, ixLp)]) (bif decide ((0 : Int) = 0 ∧ Int.ofNat xs.length = Int.ofNat xs.length ∧ xs.length ≤ 1000000) then bif decide (0 ≤ idxR c xs 0) then some (.int .i64 (idxR c xs 0)) else some (.int .i64 (-1)) else none) none := by cases nn <;> kernel_rfl
theorem two_ro {n1 n2 : Bool} {r1 r2 : Row} {s1 s2 : Nat} : ∀ (b : Nat) blk, ([.rs n1 s1 r1, .rs n2 s2 r2] : List Blk)[b]? = some blk → blk.mine = false := by
  intro b blk hb
  match b, hb with
  | 0, hb => cases hb; rfl
  | 1, hb => cases hb; rfl
  | _ + 2, hb => simp at hb
theorem sb_fn (n1 n2 : Bool) {xs ys : List Int} (hs : lenT xs = true) : FnOK Tryd.prog 30 [.gs 0, .gs 1] [.rs n1 1 (.ints .u8 xs), .rs n2 1 (.ints .u8 ys)] (.bool (eqI xs ys)) [.rs n1 1 (.ints .u8 xs), .rs n2 1 (.ints .u8 ys)] := by
  simp only [lenT, decide_eq_true_eq] at hs
  have key : evalFn Tryd.prog (orcE emptyTab plainL) (sbL n1 n2) 100 30 Tryd.f30 [.gs 0, .gs 1] [.rs n1 1 (.ints .u8 xs), .rs n2 1 (.ints .u8 ys)] (fun v _ => some v) = some (.bool (eqI xs ys)) := by
    rw [sb_eval, lpCd]
    by_cases hl : xs.length = ys.length
    · rw [decide_eq_true (show Int.ofNat xs.length = Int.ofNat ys.length by rw [hl]), decide_eq_true ⟨rfl, hl, hs⟩]
      cases eqI xs ys <;> rfl
    · rw [decide_eq_false (show ¬ Int.ofNat xs.length = Int.ofNat ys.length from fun h => hl (by have : (xs.length : Int) = (ys.length : Int) := h; omega)), eqI_len hl]; rfl
  obtain ⟨v1, h1, hk, hok⟩ := evalFn_ok (orcE_ok emptyTab_ok plainL_ok) mixed Tryd.func30 (sbL_ok n1 n2) key
  cases hk
  exact hok.plain rfl two_ro
theorem ss_fn (n1 n2 : Bool) {xs ys : List ByteArray} (hs : xs.length ≤ 1000000) : FnOK Tryd.prog 34 [.gs 0, .gs 1] [.rs n1 1 (.strs xs), .rs n2 1 (.strs ys)] (.bool (eqS xs ys)) [.rs n1 1 (.strs xs), .rs n2 1 (.strs ys)] := by
  have key : evalFn Tryd.prog (orcE emptyTab plainL) (ssL n1 n2) 100 34 Tryd.f34 [.gs 0, .gs 1] [.rs n1 1 (.strs xs), .rs n2 1 (.strs ys)] (fun v _ => some v) = some (.bool (eqS xs ys)) := by
    rw [ss_eval, lpCd]
    by_cases hl : xs.length = ys.length
    · rw [decide_eq_true (show Int.ofNat xs.length = Int.ofNat ys.length by rw [hl]), decide_eq_true ⟨rfl, hl, hs⟩]
      cases eqS xs ys <;> rfl
    · rw [decide_eq_false (show ¬ Int.ofNat xs.length = Int.ofNat ys.length from fun h => hl (by have : (xs.length : Int) = (ys.length : Int) := h; omega)), eqS_len hl]; rfl
  obtain ⟨v1, h1, hk, hok⟩ := evalFn_ok (orcE_ok emptyTab_ok plainL_ok) mixed Tryd.func34 (ssL_ok n1 n2) key
  cases hk
  exact hok.plain rfl two_ro
theorem ix_fn (nn : Bool) {c : Int} {xs : List Int} (hs : lenT xs = true) : FnOK Tryd.prog 51 [.gs 0, .int .u8 c] [.rs nn 1 (.ints .u8 xs)] (.int .i64 (idxR c xs 0)) [.rs nn 1 (.ints .u8 xs)] := by
  simp only [lenT, decide_eq_true_eq] at hs
  have key : evalFn Tryd.prog (orcE emptyTab plainL) (ixL nn) 100 51 Tryd.f51 [.gs 0, .int .u8 c] [.rs nn 1 (.ints .u8 xs)] (fun v _ => some v) = some (.int .i64 (idxR c xs 0)) := by
    rw [ix_eval, lpCd, decide_eq_true ⟨rfl, rfl, hs⟩]
    rcases ixFin_is c 0 xs xs 0 with ⟨q1, _⟩ | ⟨q1, _⟩
    · rw [decide_eq_false (by omega), q1]; rfl
    · rw [decide_eq_true q1]; rfl
  obtain ⟨v1, h1, hk, hok⟩ := evalFn_ok (orcE_ok emptyTab_ok plainL_ok) mixed Tryd.func51 (ixL_ok nn) key
  cases hk
  exact hok.plain rfl rs_ro
/-! ### Clone -/
def keepC (v : V) (h : List Blk) : Option (V × List Blk) := some (v, h)
theorem clone_nil : evalFn Tryd.prog (orcE emptyTab plainL) noLoops 100 17 Tryd.f17 [.flat (.slice none 0 0)] [] keepC = some (.flat (.slice none 0 0), []) := by kernel_rfl
theorem clone_zero (a : Addr) : evalFn Tryd.prog (orcE emptyTab plainL) noLoops 100 17 Tryd.f17 [.flat (.slice (some a) 0 0)] [] keepC = some (.gs 1, [.dead, .grow true 5 1 (.vs [])]) := by kernel_rfl
theorem clone_some (xs : List Int) : evalFn Tryd.prog (orcE emptyTab plainL) noLoops 100 17 Tryd.f17 [.gs 0] [.rs true 1 (.ints .u8 xs)] keepC = bif decide (xs.length * 2 ≤ 70368744177664) then some (.gs 2, [.rs true 1 (.ints .u8 xs), .dead, .grow true 5 1 (.ints .u8 xs)]) else none := by kernel_rfl
theorem clone_fn (nn : Bool) {xs : List Int} (hs : lenT xs = true) : FnOK Tryd.prog 17 [.gs 0] [.rs nn 1 (.ints .u8 xs)] (.gs 1) ([.rs nn 1 (.ints .u8 xs)] ++ [.grow false 5 1 (.ints .u8 xs)]) := by
  simp only [lenT, decide_eq_true_eq] at hs
  refine FnOK.clone ?_ ?_ (fun a => ?_) nn
  · have key := clone_some xs
    rw [decide_eq_true (show xs.length * 2 ≤ 70368744177664 by omega)] at key
    obtain ⟨v1, h1, hk, hok⟩ := evalFn_ok (orcE_ok emptyTab_ok plainL_ok) mixed Tryd.func17 noLoops_ok key
    unfold keepC at hk
    cases hk
    exact hok.lastAt rfl rfl rs_ro
  · obtain ⟨v1, h1, hk, hok⟩ := evalFn_ok (orcE_ok emptyTab_ok plainL_ok) mixed Tryd.func17 noLoops_ok clone_nil
    unfold keepC at hk
    cases hk
    exact hok
  · obtain ⟨v1, h1, hk, hok⟩ := evalFn_ok (orcE_ok emptyTab_ok plainL_ok) mixed Tryd.func17 noLoops_ok (clone_zero a)
    unfold keepC at hk
    cases hk
    exact hok.lastAt rfl rfl (fun b blk hb => by simp at hb)
end Go.Proofs.YtnhilofmafjdpaaDoor
