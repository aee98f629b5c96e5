/- Chapter 10: small helpers: SameBytes, SameInts, slices.Equal, slices.Clone. -/
import Derived.Test.YtojlmpcbplepcaaGreatLeg
import Derived.Test.YtojlmpcbplepcaaGreatEng5
namespace Go.Proofs.YtojlmpcbplepcaaGreat
open Go Go.Eng
def eqI : List Int → List Int → Bool
  | [], [] => true
  | x :: r, y :: q => decide (x = y) && eqI r q
  | _, _ => false
theorem eqI_iff : ∀ {l r : List Int}, eqI l r = true ↔ l = r
  | [], [] => by simp [eqI]
  | [], _ :: _ => by simp [eqI]
  | _ :: _, [] => by simp [eqI]
  | x :: l, y :: r => by simp [eqI, eqI_iff (l := l) (r := r)]
theorem eqI_len {l r : List Int} (h : l.length ≠ r.length) : eqI l r = false := by
  cases hh : eqI l r with
  | false => rfl
  | true => exact absurd (congrArg List.length (eqI_iff.1 hh)) h
def sbFin (b : Bool) (p q : PV) (r : Bool) : XE × List PV := (if r = true then .exit 0 else .ret, [.b (if r = true then b else false), p, q])
theorem lpCd10 {c : Code} : codesB [(c, c)] = true := by rw [codesB_iff]; intro x hx; simp at hx; rw [hx]
theorem two_ro {n1 n2 : Bool} {r1 r2 : Row} {s1 s2 : Nat} : ∀ (b : Nat) blk, ([.rs n1 s1 r1, .rs n2 s2 r2] : List Blk)[b]? = some blk → blk.mine = false := by
  intro b blk hb
  match b, hb with
  | 0, hb => cases hb; rfl
  | 1, hb => cases hb; rfl
  | _ + 2, hb => simp at hb
noncomputable def sbLp : Code := loopOf 4 Tryz.f26
def sbT : Tm := ⟨mkS [(0, .gs 0), (1, .gs 1), (4, .bool), (5, .int .i64)] 0 26, [.rs false 1 (.ints .u8), .rs false 1 (.ints .u8)], []⟩
def sbX : Tm := ⟨mkS [(4, .bool)] 0 26, [.rs false 1 (.ints .u8), .rs false 1 (.ints .u8)], []⟩
theorem sb_round (rd : Option Nat) (xs ys : List Int) (b : Bool) (i : Int) : roundT Tryz.prog (orcE emptyTab plainL) noLoops 100 2 rd 26 sbLp sbT sbX [.b b, .i i, .l xs, .l ys] =
    bif decide (i < Int.ofNat xs.length) then atU xs i (fun x => atU ys i (fun y => bif !decide (x = y) then some (.ret, [.b false, .l xs, .l ys], []) else some (.normal, [.b b, .i (wr .i64 (i + 1)), .l xs, .l ys], []))) else some (.exit 0, [.b b, .l xs, .l ys], []) := by kernel_rfl
theorem sb_loop (rd : Option Nat) (xs ys : List Int) (b : Bool) (hl : xs.length = ys.length) (hs : xs.length ≤ 1000000) : ∀ i : Nat, i ≤ xs.length →
    SimC Tryz.prog 2 rd (.loop sbLp) (sbT.at [.b b, .i (i : Int), .l xs, .l ys]) (sbFin b (.l xs) (.l ys) (eqI (xs.drop i) (ys.drop i))).1 (sbX.at (sbFin b (.l xs) (.l ys) (eqI (xs.drop i) (ys.drop i))).2) := by
  refine loop_of_rounds (C := orcE emptyTab plainL) (L := noLoops) (N := 100) (me := 26) (T := sbT) (T' := sbX) (orcE_ok emptyTab_ok plainL_ok) mixed noLoops_ok (by kernel_rfl) (by kernel_rfl) (X := Nat)
    (fun i => [.b b, .i (i : Int), .l xs, .l ys]) (fun i => i ≤ xs.length) (fun i => xs.length - i) (fun i => sbFin b (.l xs) (.l ys) (eqI (xs.drop i) (ys.drop i))) ?_
  intro i hi
  have h := sb_round rd xs ys b (i : Int)
  rcases Nat.lt_or_ge i xs.length with hlt | hge
  · rw [decide_eq_true (show (i : Int) < Int.ofNat xs.length by show (i : Int) < (xs.length : Int); omega), cond_true, atU_at hlt, atU_at (show i < ys.length by omega), wr64 (by omega) (by omega)] at h
    have e : eqI (xs.drop i) (ys.drop i) = (decide (xs[i] = ys[i]) && eqI (xs.drop (i + 1)) (ys.drop (i + 1))) := by
      rw [List.drop_eq_getElem_cons hlt, List.drop_eq_getElem_cons (show i < ys.length by omega)]; rfl
    rw [e]
    by_cases hb : xs[i] = ys[i]
    · rw [decide_eq_true hb] at h ⊢
      exact ⟨_, _, _, h, codes0, .inl ⟨rfl, i + 1, rfl, by omega, by omega, by rw [Bool.true_and]⟩⟩
    · rw [decide_eq_false hb] at h ⊢
      exact ⟨_, _, _, h, codes0, .inr ⟨by simp, rfl⟩⟩
  · rw [decide_eq_false (show ¬ (i : Int) < Int.ofNat xs.length from fun h => by have : (i : Int) < (xs.length : Int) := h; omega), cond_false] at h
    refine ⟨_, _, _, h, codes0, .inr ⟨by simp, ?_⟩⟩
    rw [List.drop_eq_nil_of_le (by omega), List.drop_eq_nil_of_le (by omega)]; rfl
noncomputable def sbTree : List PV → Fin
  | [.b b, .i i, .l xs, .l ys] => .br (decide (i = 0 ∧ xs.length = ys.length ∧ xs.length ≤ 1000000)) (.br (eqI xs ys) (.leaf (.exit 0) (sbX.at [.b b, .l xs, .l ys])) (.leaf .ret (sbX.at [.b false, .l xs, .l ys]))) .no
  | _ => .no
noncomputable def sbL : Loops := sums (fun n => match n with | 4 => some (lsumF 2 sbT sbLp sbTree) | _ => none)
theorem sbL_ok : loopsOk Tryz.prog sbL := by
  intro n g hg
  simp only [sbL, sums] at hg
  split at hg
  · cases hg
    refine lsumF_ok (by kernel_rfl) (fun rd ps e1 st1 hq => ?_)
    unfold sbTree at hq
    split at hq
    · rename_i b i xs ys
      simp only [Fin.pick] at hq
      cases hc : decide (i = 0 ∧ xs.length = ys.length ∧ xs.length ≤ 1000000) with
      | false => rw [hc] at hq; cases hq
      | true =>
        rw [hc, cond_true] at hq
        rw [decide_eq_true_eq] at hc
        obtain ⟨rfl, h1, h2⟩ := hc
        have := sb_loop rd xs ys b h1 h2 0 (Nat.zero_le _)
        rw [show xs.drop 0 = xs from rfl, show ys.drop 0 = ys from rfl] at this
        unfold sbFin at this
        cases hr : eqI xs ys with
        | true => rw [hr] at hq this; cases hq; exact this
        | false => rw [hr] at hq this; cases hq; exact this
    · cases hq
  · cases hg
theorem sb_eval (xs ys : List Int) : evalFn Tryz.prog (orcE emptyTab plainL) sbL 100 26 Tryz.f26 [.gs 0, .gs 1] [.rs false 1 (.ints .u8 xs), .rs false 1 (.ints .u8 ys)] (fun v _ => some v) =
    bif !decide (Int.ofNat xs.length = Int.ofNat ys.length) then some (.bool false) else cond (codesB [(sbLp, sbLp)]) (bif decide ((0 : Int) = 0 ∧ xs.length = ys.length ∧ xs.length ≤ 1000000) then bif eqI xs ys then some (.bool true) else some (.bool false) else none) none := by kernel_rfl
theorem sb_fn (n1 n2 : Bool) {xs ys : List Int} (hs : xs.length ≤ 1000000) : FnOK Tryz.prog 26 [.gs 0, .gs 1] [.rs n1 1 (.ints .u8 xs), .rs n2 1 (.ints .u8 ys)] (.bool (eqI xs ys)) ([.rs n1 1 (.ints .u8 xs), .rs n2 1 (.ints .u8 ys)] ++ []) := by
  have key : evalFn Tryz.prog (orcE emptyTab plainL) sbL 100 26 Tryz.f26 [.gs 0, .gs 1] [.rs false 1 (.ints .u8 xs), .rs false 1 (.ints .u8 ys)] (fun v _ => some v) = some (.bool (eqI xs ys)) := by
    rw [sb_eval, lpCd10]
    by_cases hl : xs.length = ys.length
    · rw [decide_eq_true (show Int.ofNat xs.length = Int.ofNat ys.length by rw [hl]), decide_eq_true ⟨rfl, hl, hs⟩]
      cases eqI xs ys <;> rfl
    · rw [decide_eq_false (show ¬ Int.ofNat xs.length = Int.ofNat ys.length from fun h => hl (by have : (xs.length : Int) = (ys.length : Int) := h; omega)), eqI_len hl]; rfl
  obtain ⟨v1, h1, hk, hok⟩ := evalFn_ok (orcE_ok emptyTab_ok plainL_ok) mixed Tryz.func26 sbL_ok key
  cases hk
  exact FnOK.hard rfl (by rw [List.append_nil]; exact hok.plain rfl two_ro)
noncomputable def siLp : Code := loopOf 4 Tryz.f88
def siT : Tm := ⟨mkS [(0, .gs 0), (1, .gs 1), (4, .bool), (5, .int .i64)] 0 26, [.rs false 1 (.ints .i64), .rs false 1 (.ints .i64)], []⟩
def siX : Tm := ⟨mkS [(4, .bool)] 0 26, [.rs false 1 (.ints .i64), .rs false 1 (.ints .i64)], []⟩
theorem si_round (rd : Option Nat) (xs ys : List Int) (b : Bool) (i : Int) : roundT Tryz.prog (orcE emptyTab plainL) noLoops 100 2 rd 88 siLp siT siX [.b b, .i i, .l xs, .l ys] =
    bif decide (i < Int.ofNat xs.length) then atU xs i (fun x => atU ys i (fun y => bif !decide (x = y) then some (.ret, [.b false, .l xs, .l ys], []) else some (.normal, [.b b, .i (wr .i64 (i + 1)), .l xs, .l ys], []))) else some (.exit 0, [.b b, .l xs, .l ys], []) := by kernel_rfl
theorem si_loop (rd : Option Nat) (xs ys : List Int) (b : Bool) (hl : xs.length = ys.length) (hs : xs.length ≤ 1000000) : ∀ i : Nat, i ≤ xs.length →
    SimC Tryz.prog 2 rd (.loop siLp) (siT.at [.b b, .i (i : Int), .l xs, .l ys]) (sbFin b (.l xs) (.l ys) (eqI (xs.drop i) (ys.drop i))).1 (siX.at (sbFin b (.l xs) (.l ys) (eqI (xs.drop i) (ys.drop i))).2) := by
  refine loop_of_rounds (C := orcE emptyTab plainL) (L := noLoops) (N := 100) (me := 88) (T := siT) (T' := siX) (orcE_ok emptyTab_ok plainL_ok) mixed noLoops_ok (by kernel_rfl) (by kernel_rfl) (X := Nat)
    (fun i => [.b b, .i (i : Int), .l xs, .l ys]) (fun i => i ≤ xs.length) (fun i => xs.length - i) (fun i => sbFin b (.l xs) (.l ys) (eqI (xs.drop i) (ys.drop i))) ?_
  intro i hi
  have h := si_round rd xs ys b (i : Int)
  rcases Nat.lt_or_ge i xs.length with hlt | hge
  · rw [decide_eq_true (show (i : Int) < Int.ofNat xs.length by show (i : Int) < (xs.length : Int); omega), cond_true, atU_at hlt, atU_at (show i < ys.length by omega), wr64 (by omega) (by omega)] at h
    have e : eqI (xs.drop i) (ys.drop i) = (decide (xs[i] = ys[i]) && eqI (xs.drop (i + 1)) (ys.drop (i + 1))) := by
      rw [List.drop_eq_getElem_cons hlt, List.drop_eq_getElem_cons (show i < ys.length by omega)]; rfl
    rw [e]
    by_cases hb : xs[i] = ys[i]
    · rw [decide_eq_true hb] at h ⊢
      exact ⟨_, _, _, h, codes0, .inl ⟨rfl, i + 1, rfl, by omega, by omega, by rw [Bool.true_and]⟩⟩
    · rw [decide_eq_false hb] at h ⊢
      exact ⟨_, _, _, h, codes0, .inr ⟨by simp, rfl⟩⟩
  · rw [decide_eq_false (show ¬ (i : Int) < Int.ofNat xs.length from fun h => by have : (i : Int) < (xs.length : Int) := h; omega), cond_false] at h
    refine ⟨_, _, _, h, codes0, .inr ⟨by simp, ?_⟩⟩
    rw [List.drop_eq_nil_of_le (by omega), List.drop_eq_nil_of_le (by omega)]; rfl
noncomputable def siTree : List PV → Fin
  | [.b b, .i i, .l xs, .l ys] => .br (decide (i = 0 ∧ xs.length = ys.length ∧ xs.length ≤ 1000000)) (.br (eqI xs ys) (.leaf (.exit 0) (siX.at [.b b, .l xs, .l ys])) (.leaf .ret (siX.at [.b false, .l xs, .l ys]))) .no
  | _ => .no
noncomputable def siL : Loops := sums (fun n => match n with | 4 => some (lsumF 2 siT siLp siTree) | _ => none)
theorem siL_ok : loopsOk Tryz.prog siL := by
  intro n g hg
  simp only [siL, sums] at hg
  split at hg
  · cases hg
    refine lsumF_ok (by kernel_rfl) (fun rd ps e1 st1 hq => ?_)
    unfold siTree at hq
    split at hq
    · rename_i b i xs ys
      simp only [Fin.pick] at hq
      cases hc : decide (i = 0 ∧ xs.length = ys.length ∧ xs.length ≤ 1000000) with
      | false => rw [hc] at hq; cases hq
      | true =>
        rw [hc, cond_true] at hq
        rw [decide_eq_true_eq] at hc
        obtain ⟨rfl, h1, h2⟩ := hc
        have := si_loop rd xs ys b h1 h2 0 (Nat.zero_le _)
        rw [show xs.drop 0 = xs from rfl, show ys.drop 0 = ys from rfl] at this
        unfold sbFin at this
        cases hr : eqI xs ys with
        | true => rw [hr] at hq this; cases hq; exact this
        | false => rw [hr] at hq this; cases hq; exact this
    · cases hq
  · cases hg
theorem si_eval (xs ys : List Int) : evalFn Tryz.prog (orcE emptyTab plainL) siL 100 88 Tryz.f88 [.gs 0, .gs 1] [.rs false 1 (.ints .i64 xs), .rs false 1 (.ints .i64 ys)] (fun v _ => some v) =
    bif !decide (Int.ofNat xs.length = Int.ofNat ys.length) then some (.bool false) else cond (codesB [(siLp, siLp)]) (bif decide ((0 : Int) = 0 ∧ xs.length = ys.length ∧ xs.length ≤ 1000000) then bif eqI xs ys then some (.bool true) else some (.bool false) else none) none := by kernel_rfl
theorem si_fn (n1 n2 : Bool) {xs ys : List Int} (hs : xs.length ≤ 1000000) : FnOK Tryz.prog 88 [.gs 0, .gs 1] [.rs n1 1 (.ints .i64 xs), .rs n2 1 (.ints .i64 ys)] (.bool (eqI xs ys)) ([.rs n1 1 (.ints .i64 xs), .rs n2 1 (.ints .i64 ys)] ++ []) := by
  have key : evalFn Tryz.prog (orcE emptyTab plainL) siL 100 88 Tryz.f88 [.gs 0, .gs 1] [.rs false 1 (.ints .i64 xs), .rs false 1 (.ints .i64 ys)] (fun v _ => some v) = some (.bool (eqI xs ys)) := by
    rw [si_eval, lpCd10]
    by_cases hl : xs.length = ys.length
    · rw [decide_eq_true (show Int.ofNat xs.length = Int.ofNat ys.length by rw [hl]), decide_eq_true ⟨rfl, hl, hs⟩]
      cases eqI xs ys <;> rfl
    · rw [decide_eq_false (show ¬ Int.ofNat xs.length = Int.ofNat ys.length from fun h => hl (by have : (xs.length : Int) = (ys.length : Int) := h; omega)), eqI_len hl]; rfl
  obtain ⟨v1, h1, hk, hok⟩ := evalFn_ok (orcE_ok emptyTab_ok plainL_ok) mixed Tryz.func88 siL_ok key
  cases hk
  exact FnOK.hard rfl (by rw [List.append_nil]; exact hok.plain rfl two_ro)
noncomputable def seLp : Code := loopOf 4 Tryz.f47
def seT : Tm := ⟨mkS [(0, .gs 0), (1, .gs 1), (4, .bool), (12, .int .i64), (13, .int .i64)] 0 26, [.rs false 1 (.ints .u8), .rs false 1 (.ints .u8)], []⟩
def seX : Tm := ⟨mkS [(4, .bool)] 0 26, [.rs false 1 (.ints .u8), .rs false 1 (.ints .u8)], []⟩
theorem se_round (rd : Option Nat) (xs ys : List Int) (b : Bool) (n i : Int) : roundT Tryz.prog (orcE emptyTab plainL) noLoops 100 2 rd 47 seLp seT seX [.b b, .i n, .i i, .l xs, .l ys] =
    bif decide (i < n) then atU xs i (fun x => atU ys i (fun y => bif !decide (x = y) then some (.ret, [.b false, .l xs, .l ys], []) else some (.normal, [.b b, .i n, .i (wr .i64 (i + 1)), .l xs, .l ys], []))) else some (.exit 0, [.b b, .l xs, .l ys], []) := by kernel_rfl
theorem se_loop (rd : Option Nat) (xs ys : List Int) (b : Bool) (hl : xs.length = ys.length) (hs : xs.length ≤ 1000000) : ∀ i : Nat, i ≤ xs.length →
    SimC Tryz.prog 2 rd (.loop seLp) (seT.at [.b b, .i (xs.length : Int), .i (i : Int), .l xs, .l ys]) (sbFin b (.l xs) (.l ys) (eqI (xs.drop i) (ys.drop i))).1 (seX.at (sbFin b (.l xs) (.l ys) (eqI (xs.drop i) (ys.drop i))).2) := by
  refine loop_of_rounds (C := orcE emptyTab plainL) (L := noLoops) (N := 100) (me := 47) (T := seT) (T' := seX) (orcE_ok emptyTab_ok plainL_ok) mixed noLoops_ok (by kernel_rfl) (by kernel_rfl) (X := Nat)
    (fun i => [.b b, .i (xs.length : Int), .i (i : Int), .l xs, .l ys]) (fun i => i ≤ xs.length) (fun i => xs.length - i) (fun i => sbFin b (.l xs) (.l ys) (eqI (xs.drop i) (ys.drop i))) ?_
  intro i hi
  have h := se_round rd xs ys b (xs.length : Int) (i : Int)
  rcases Nat.lt_or_ge i xs.length with hlt | hge
  · rw [decide_eq_true (show (i : Int) < (xs.length : Int) by omega), cond_true, atU_at hlt, atU_at (show i < ys.length by omega), wr64 (by omega) (by omega)] at h
    have e : eqI (xs.drop i) (ys.drop i) = (decide (xs[i] = ys[i]) && eqI (xs.drop (i + 1)) (ys.drop (i + 1))) := by
      rw [List.drop_eq_getElem_cons hlt, List.drop_eq_getElem_cons (show i < ys.length by omega)]; rfl
    rw [e]
    by_cases hb : xs[i] = ys[i]
    · rw [decide_eq_true hb] at h ⊢
      exact ⟨_, _, _, h, codes0, .inl ⟨rfl, i + 1, rfl, by omega, by omega, by rw [Bool.true_and]⟩⟩
    · rw [decide_eq_false hb] at h ⊢
      exact ⟨_, _, _, h, codes0, .inr ⟨by simp, rfl⟩⟩
  · rw [decide_eq_false (show ¬ (i : Int) < (xs.length : Int) by omega), cond_false] at h
    refine ⟨_, _, _, h, codes0, .inr ⟨by simp, ?_⟩⟩
    rw [List.drop_eq_nil_of_le (by omega), List.drop_eq_nil_of_le (by omega)]; rfl
noncomputable def seTree : List PV → Fin
  | [.b b, .i n, .i i, .l xs, .l ys] => .br (decide (n = Int.ofNat xs.length ∧ i = 0 ∧ xs.length = ys.length ∧ xs.length ≤ 1000000)) (.br (eqI xs ys) (.leaf (.exit 0) (seX.at [.b b, .l xs, .l ys])) (.leaf .ret (seX.at [.b false, .l xs, .l ys]))) .no
  | _ => .no
noncomputable def seL : Loops := sums (fun n => match n with | 4 => some (lsumF 2 seT seLp seTree) | _ => none)
theorem seL_ok : loopsOk Tryz.prog seL := by
  intro n g hg
  simp only [seL, sums] at hg
  split at hg
  · cases hg
    refine lsumF_ok (by kernel_rfl) (fun rd ps e1 st1 hq => ?_)
    unfold seTree at hq
    split at hq
    · rename_i b n i xs ys
      simp only [Fin.pick] at hq
      cases hc : decide (n = Int.ofNat xs.length ∧ i = 0 ∧ xs.length = ys.length ∧ xs.length ≤ 1000000) with
      | false => rw [hc] at hq; cases hq
      | true =>
        rw [hc, cond_true] at hq
        rw [decide_eq_true_eq] at hc
        obtain ⟨rfl, rfl, h1, h2⟩ := hc
        have := se_loop rd xs ys b h1 h2 0 (Nat.zero_le _)
        rw [show xs.drop 0 = xs from rfl, show ys.drop 0 = ys from rfl] at this
        unfold sbFin at this
        cases hr : eqI xs ys with
        | true => rw [hr] at hq this; cases hq; exact this
        | false => rw [hr] at hq this; cases hq; exact this
    · cases hq
  · cases hg
theorem se_eval (xs ys : List Int) : evalFn Tryz.prog (orcE emptyTab plainL) seL 100 47 Tryz.f47 [.gs 0, .gs 1] [.rs false 1 (.ints .u8 xs), .rs false 1 (.ints .u8 ys)] (fun v _ => some v) =
    bif !decide (Int.ofNat xs.length = Int.ofNat ys.length) then some (.bool false) else cond (codesB [(seLp, seLp)]) (bif decide (Int.ofNat xs.length = Int.ofNat xs.length ∧ (0 : Int) = 0 ∧ xs.length = ys.length ∧ xs.length ≤ 1000000) then bif eqI xs ys then some (.bool true) else some (.bool false) else none) none := by kernel_rfl
theorem se_fn (n1 n2 : Bool) {xs ys : List Int} (hs : xs.length ≤ 1000000) : FnOK Tryz.prog 47 [.gs 0, .gs 1] [.rs n1 1 (.ints .u8 xs), .rs n2 1 (.ints .u8 ys)] (.bool (eqI xs ys)) ([.rs n1 1 (.ints .u8 xs), .rs n2 1 (.ints .u8 ys)] ++ []) := by
  have key : evalFn Tryz.prog (orcE emptyTab plainL) seL 100 47 Tryz.f47 [.gs 0, .gs 1] [.rs false 1 (.ints .u8 xs), .rs false 1 (.ints .u8 ys)] (fun v _ => some v) = some (.bool (eqI xs ys)) := by
    rw [se_eval, lpCd10]
    by_cases hl : xs.length = ys.length
    · rw [decide_eq_true (show Int.ofNat xs.length = Int.ofNat ys.length by rw [hl]), decide_eq_true ⟨rfl, rfl, hl, hs⟩]
      cases eqI xs ys <;> rfl
    · rw [decide_eq_false (show ¬ Int.ofNat xs.length = Int.ofNat ys.length from fun h => hl (by have : (xs.length : Int) = (ys.length : Int) := h; omega)), eqI_len hl]; rfl
  obtain ⟨v1, h1, hk, hok⟩ := evalFn_ok (orcE_ok emptyTab_ok plainL_ok) mixed Tryz.func47 seL_ok key
  cases hk
  exact FnOK.hard rfl (by rw [List.append_nil]; exact hok.plain rfl two_ro)
end Go.Proofs.YtojlmpcbplepcaaGreat
