/- Chapter 3: small helpers: SameInts, KeptInts. -/
import Derived.Test.YtnbfnoomhlamnaaGreatFi0
import Derived.Test.YtnbfnoomhlamnaaGreatEng5
namespace Go.Proofs.YtnbfnoomhlamnaaGreat
open Go Go.Eng
noncomputable abbrev orcK (T : PTab) (LL : FuncId → Loops) : Oracle := orc T LL
theorem orcK_ok {T : PTab} (hT : PTabOk Tryz.prog T) {LL : FuncId → Loops} (hL : ∀ f, loopsOk Tryz.prog (LL f)) : OracleOk Tryz.prog (orcK T LL) := inl_ok (oracleOf_ok emptyTab_ok) ftab_ok hT hL mixed 20
theorem codesK : codesOk [] := fun x h => by cases h
theorem wrK {n : Int} (h : -9223372036854775808 ≤ n) (h2 : n < 9223372036854775808) : wr .i64 n = n := by rw [← wr_eq]; simp only [IntKind.wrap, IntKind.bits, IntKind.signed]; simp; omega
def atU {α : Type} (l : List Int) (i : Int) (K : Int → Option α) : Option α := bif decide (0 ≤ i ∧ i < Int.ofNat l.length) then (match l[i.toNat]? with | some v => K v | none => none) else none
theorem atU_at {α : Type} {l : List Int} {i : Nat} (h : i < l.length) {K : Int → Option α} : atU l (i : Int) K = K l[i] := by
  unfold atU
  rw [decide_eq_true (show 0 ≤ (i : Int) ∧ (i : Int) < Int.ofNat l.length by refine ⟨by omega, ?_⟩; show (i : Int) < (l.length : Int); omega), cond_true, show (i : Int).toNat = i from rfl, List.getElem?_eq_getElem h]
abbrev RTK := Option (XE × List PV × List (Code × Code))
def eqI : List Int → List Int → Bool
  | [], [] => true
  | x :: r, y :: q => decide (x = y) && eqI r q
  | _, _ => false
theorem eqI_iff : ∀ {l r : List Int}, eqI l r = true ↔ l = r
  | [], [] => by simp [eqI]
  | [], _ :: _ => by simp [eqI]
  | _ :: _, [] => by simp [eqI]
  | x :: l, y :: r => by simp [eqI, eqI_iff (l := l) (r := r)]
theorem eqI_len {l r : List Int} (h : l.length ≠ r.length) : eqI l r = false := by
  cases hh : eqI l r with
  | false => rfl
  | true => exact absurd (congrArg List.length (eqI_iff.1 hh)) h
def sbFin (b : Bool) (p q : PV) (r : Bool) : XE × List PV := (if r = true then .exit 0 else .ret, [.b (if r = true then b else false), p, q])
theorem lpK {c : Code} : codesB [(c, c)] = true := by rw [codesB_iff]; intro x hx; simp at hx; rw [hx]
theorem two_ro {n1 n2 : Bool} {r1 r2 : Row} {s1 s2 : Nat} : ∀ (b : Nat) blk, ([.rs n1 s1 r1, .rs n2 s2 r2] : List Blk)[b]? = some blk → blk.mine = false := by
  intro b blk hb
  match b, hb with
  | 0, hb => cases hb; rfl
  | 1, hb => cases hb; rfl
  | _ + 2, hb => simp at hb
noncomputable def sbLp : Code := loopOf 4 Tryz.f30
def sbT : Tm := ⟨mkS [(0, .gs 0), (1, .gs 1), (4, .bool), (5, .int .i64)] 0 26, [.rs false 1 (.ints .i64), .rs false 1 (.ints .i64)], []⟩
def sbX : Tm := ⟨mkS [(4, .bool)] 0 26, [.rs false 1 (.ints .i64), .rs false 1 (.ints .i64)], []⟩
theorem sb_round (rd : Option Nat) (xs ys : List Int) (b : Bool) (i : Int) : roundT Tryz.prog (orcK emptyTab plainL) noLoops 100 2 rd 30 sbLp sbT sbX [.b b, .i i, .l xs, .l ys] =
    bif decide (i < Int.ofNat xs.length) then atU xs i (fun x => atU ys i (fun y => bif !decide (x = y) then some (.ret, [.b false, .l xs, .l ys], []) else some (.normal, [.b b, .i (wr .i64 (i + 1)), .l xs, .l ys], []))) else some (.exit 0, [.b b, .l xs, .l ys], []) := by kernel_rfl
theorem sb_loop (rd : Option Nat) (xs ys : List Int) (b : Bool) (hl : xs.length = ys.length) (hs : xs.length ≤ 1000000) : ∀ i : Nat, i ≤ xs.length →
    SimC Tryz.prog 2 rd (.loop sbLp) (sbT.at [.b b, .i (i : Int), .l xs, .l ys]) (sbFin b (.l xs) (.l ys) (eqI (xs.drop i) (ys.drop i))).1 (sbX.at (sbFin b (.l xs) (.l ys) (eqI (xs.drop i) (ys.drop i))).2) := by
  refine loop_of_rounds (C := orcK emptyTab plainL) (L := noLoops) (N := 100) (me := 30) (T := sbT) (T' := sbX) (orcK_ok emptyTab_ok plainL_ok) mixed noLoops_ok (by kernel_rfl) (by kernel_rfl) (X := Nat)
    (fun i => [.b b, .i (i : Int), .l xs, .l ys]) (fun i => i ≤ xs.length) (fun i => xs.length - i) (fun i => sbFin b (.l xs) (.l ys) (eqI (xs.drop i) (ys.drop i))) ?_
  intro i hi
  have h := sb_round rd xs ys b (i : Int)
  rcases Nat.lt_or_ge i xs.length with hlt | hge
  · rw [decide_eq_true (show (i : Int) < Int.ofNat xs.length by show (i : Int) < (xs.length : Int); omega), cond_true, atU_at hlt, atU_at (show i < ys.length by omega), wrK (by omega) (by omega)] at h
    have e : eqI (xs.drop i) (ys.drop i) = (decide (xs[i] = ys[i]) && eqI (xs.drop (i + 1)) (ys.drop (i + 1))) := by
      rw [List.drop_eq_getElem_cons hlt, List.drop_eq_getElem_cons (show i < ys.length by omega)]; rfl
    rw [e]
    by_cases hb : xs[i] = ys[i]
    · rw [decide_eq_true hb] at h ⊢
      exact ⟨_, _, _, h, codesK, .inl ⟨rfl, i + 1, rfl, by omega, by omega, by rw [Bool.true_and]⟩⟩
    · rw [decide_eq_false hb] at h ⊢
      exact ⟨_, _, _, h, codesK, .inr ⟨by simp, rfl⟩⟩
  · rw [decide_eq_false (show ¬ (i : Int) < Int.ofNat xs.length from fun h => by have : (i : Int) < (xs.length : Int) := h; omega), cond_false] at h
    refine ⟨_, _, _, h, codesK, .inr ⟨by simp, ?_⟩⟩
    rw [List.drop_eq_nil_of_le (by omega), List.drop_eq_nil_of_le (by omega)]; rfl
noncomputable def sbTree : List PV → Fin
  | [.b b, .i i, .l xs, .l ys] => .br (decide (i = 0 ∧ xs.length = ys.length ∧ xs.length ≤ 1000000)) (.br (eqI xs ys) (.leaf (.exit 0) (sbX.at [.b b, .l xs, .l ys])) (.leaf .ret (sbX.at [.b false, .l xs, .l ys]))) .no
  | _ => .no
noncomputable def sbL : Loops := sums (fun n => match n with | 4 => some (lsumF 2 sbT sbLp sbTree) | _ => none)
theorem sbL_ok : loopsOk Tryz.prog sbL := by
  intro n g hg
  simp only [sbL, sums] at hg
  split at hg
  · cases hg
    refine lsumF_ok (by kernel_rfl) (fun rd ps e1 st1 hq => ?_)
    unfold sbTree at hq
    split at hq
    · rename_i b i xs ys
      simp only [Fin.pick] at hq
      cases hc : decide (i = 0 ∧ xs.length = ys.length ∧ xs.length ≤ 1000000) with
      | false => rw [hc] at hq; cases hq
      | true =>
        rw [hc, cond_true] at hq
        rw [decide_eq_true_eq] at hc
        obtain ⟨rfl, h1, h2⟩ := hc
        have := sb_loop rd xs ys b h1 h2 0 (Nat.zero_le _)
        rw [show xs.drop 0 = xs from rfl, show ys.drop 0 = ys from rfl] at this
        unfold sbFin at this
        cases hr : eqI xs ys with
        | true => rw [hr] at hq this; cases hq; exact this
        | false => rw [hr] at hq this; cases hq; exact this
    · cases hq
  · cases hg
theorem sb_eval (xs ys : List Int) : evalFn Tryz.prog (orcK emptyTab plainL) sbL 100 30 Tryz.f30 [.gs 0, .gs 1] [.rs false 1 (.ints .i64 xs), .rs false 1 (.ints .i64 ys)] (fun v _ => some v) =
    bif !decide (Int.ofNat xs.length = Int.ofNat ys.length) then some (.bool false) else cond (codesB [(sbLp, sbLp)]) (bif decide ((0 : Int) = 0 ∧ xs.length = ys.length ∧ xs.length ≤ 1000000) then bif eqI xs ys then some (.bool true) else some (.bool false) else none) none := by kernel_rfl
theorem sb_fn (n1 n2 : Bool) {xs ys : List Int} (hs : xs.length ≤ 1000000) : FnOK Tryz.prog 30 [.gs 0, .gs 1] [.rs n1 1 (.ints .i64 xs), .rs n2 1 (.ints .i64 ys)] (.bool (eqI xs ys)) ([.rs n1 1 (.ints .i64 xs), .rs n2 1 (.ints .i64 ys)] ++ []) := by
  have key : evalFn Tryz.prog (orcK emptyTab plainL) sbL 100 30 Tryz.f30 [.gs 0, .gs 1] [.rs false 1 (.ints .i64 xs), .rs false 1 (.ints .i64 ys)] (fun v _ => some v) = some (.bool (eqI xs ys)) := by
    rw [sb_eval, lpK]
    by_cases hl : xs.length = ys.length
    · rw [decide_eq_true (show Int.ofNat xs.length = Int.ofNat ys.length by rw [hl]), decide_eq_true ⟨rfl, hl, hs⟩]
      cases eqI xs ys <;> rfl
    · rw [decide_eq_false (show ¬ Int.ofNat xs.length = Int.ofNat ys.length from fun h => hl (by have : (xs.length : Int) = (ys.length : Int) := h; omega)), eqI_len hl]; rfl
  obtain ⟨v1, h1, hk, hok⟩ := evalFn_ok (orcK_ok emptyTab_ok plainL_ok) mixed Tryz.func30 sbL_ok key
  cases hk
  exact FnOK.hard rfl (by rw [List.append_nil]; exact hok.plain rfl two_ro)
noncomputable def kpLp : Code := loopOf 5 Tryz.f31
def kpT (n1 n2 : Bool) : Tm := ⟨mkS [(1, .gs 2), (4, .bool), (5, .view 1 1), (6, .int .i64)] 0 58, [.ro (.vs []), .rs n1 1 i64s, .rs n2 1 i64s], []⟩
def kpX (n1 n2 : Bool) : Tm := ⟨mkS [(4, .bool)] 0 58, [.ro (.vs []), .rs n1 1 i64s, .rs n2 1 i64s], []⟩
noncomputable def atW (ws : List Int) (k : Nat) (i : Int) (K : Int → RTK) : RTK := bif decide (0 ≤ i ∧ i < Int.ofNat k ∧ 0 + k ≤ ws.length) then (match ws[i.toNat]? with | some v => K v | none => none) else none
noncomputable def kpZ (MK : Int → Int → Int) (b : Bool) (k : Nat) (i : Int) (ws xs : List Int) : RTK := bif decide (Int.ofNat xs.length ≤ i) then atW ws k i (fun v => bif !decide (v = MK 1 (wr .i64 (i - Int.ofNat xs.length))) then some (.ret, [.b false, .l ws, .l xs], []) else
  some (.normal, [.b b, .n 0, .n k, .i (wr .i64 (i + 1)), .l ws, .l xs], [])) else some (.normal, [.b b, .n 0, .n k, .i (wr .i64 (i + 1)), .l ws, .l xs], [])
theorem kp_round (MK : Int → Int → Int) (n1 n2 : Bool) (rd : Option Nat) (b : Bool) (k : Nat) (i : Int) (ws xs : List Int) : roundT Tryz.prog (orcK (tabMk MK) plainL) noLoops 100 3 rd 31 kpLp (kpT n1 n2) (kpX n1 n2) [.b b, .n 0, .n k, .i i, .l ws, .l xs] =
    bif decide (i < Int.ofNat k) then bif decide (i < Int.ofNat xs.length) then atW ws k i (fun v => atU xs i (fun w => bif !decide (v = w) then some (.ret, [.b false, .l ws, .l xs], []) else kpZ MK b k i ws xs)) else kpZ MK b k i ws xs else some (.exit 0, [.b b, .l ws, .l xs], []) := by cases n1 <;> cases n2 <;> kernel_rfl
def marks (MK : Int → Int → Int) : List Int := (List.range 12).map fun (i : Nat) => MK 1 (i : Int)
theorem atW_at {ws : List Int} {k i : Nat} (h : i < ws.length) (hk : k = ws.length) {K : Int → RTK} : atW ws k (i : Int) K = K ws[i] := by
  unfold atW
  rw [decide_eq_true (show 0 ≤ (i : Int) ∧ (i : Int) < Int.ofNat k ∧ 0 + k ≤ ws.length by refine ⟨by omega, ?_, by omega⟩; show (i : Int) < (k : Int); omega), show (i : Int).toNat = i from rfl, List.getElem?_eq_getElem h]; rfl
theorem marks_get {MK : Int → Int → Int} {j : Nat} (h : j < 12) (hm : j < (marks MK).length) : (marks MK)[j] = MK 1 (j : Int) := by
  have e : (marks MK)[j]? = some (MK 1 (j : Int)) := by unfold marks; rw [List.getElem?_map, List.getElem?_range h]; rfl
  exact Option.some.inj ((List.getElem?_eq_getElem hm).symm.trans e)
theorem kp_loop (n1 n2 : Bool) (rd : Option Nat) (b : Bool) (xs : List Int) (hl : xs.length ≤ 1000000) (ws : List Int) (hw : ws = xs ++ marks mkV) : ∀ i : Nat, i ≤ ws.length →
    SimC Tryz.prog 3 rd (.loop kpLp) ((kpT n1 n2).at [.b b, .n 0, .n ws.length, .i (i : Int), .l ws, .l xs]) (.exit 0) ((kpX n1 n2).at [.b b, .l ws, .l xs]) := by
  have hwl : ws.length = xs.length + 12 := by rw [hw, List.length_append]; rfl
  refine loop_of_rounds (C := orcK (tabMk mkV) plainL) (L := noLoops) (N := 100) (me := 31) (T := kpT n1 n2) (T' := kpX n1 n2) (orcK_ok tabMk_ok plainL_ok) mixed noLoops_ok (by cases n1 <;> cases n2 <;> kernel_rfl) (by cases n1 <;> cases n2 <;> kernel_rfl) (X := Nat)
    (fun i => [.b b, .n 0, .n ws.length, .i (i : Int), .l ws, .l xs]) (fun i => i ≤ ws.length) (fun i => ws.length - i) (fun _ => (.exit 0, [.b b, .l ws, .l xs])) ?_
  intro i hi
  have h := kp_round mkV n1 n2 rd b ws.length (i : Int) ws xs
  have hof : Int.ofNat ws.length = (ws.length : Int) := rfl
  have hox : Int.ofNat xs.length = (xs.length : Int) := rfl
  unfold kpZ at h
  rw [hof, hox] at h
  rcases Nat.lt_or_ge i ws.length with hlt | hge
  · rw [decide_eq_true (show (i : Int) < (ws.length : Int) by omega), cond_true, wrK (n := (i : Int) + 1) (by omega) (by omega)] at h
    rcases Nat.lt_or_ge i xs.length with h1 | h1
    · have e : ws[i] = xs[i] := by simp only [hw]; exact List.getElem_append_left h1
      rw [decide_eq_true (show (i : Int) < (xs.length : Int) by omega), cond_true, atW_at hlt rfl, atU_at h1, e, decide_eq_true rfl, decide_eq_false (show ¬ (xs.length : Int) ≤ (i : Int) by omega)] at h
      exact ⟨_, _, _, h, codesK, .inl ⟨rfl, i + 1, rfl, by omega, by omega, rfl⟩⟩
    · have e : ws[i] = mkV 1 ((i : Int) - (xs.length : Int)) := by
        have hm : i - xs.length < (marks mkV).length := by show i - xs.length < 12; omega
        have e1 : ws[i] = (marks mkV)[i - xs.length]'hm := by simp only [hw]; exact List.getElem_append_right h1
        rw [e1, marks_get (by omega) hm, show ((i - xs.length : Nat) : Int) = (i : Int) - (xs.length : Int) by omega]
      rw [decide_eq_false (show ¬ (i : Int) < (xs.length : Int) by omega), cond_false, decide_eq_true (show (xs.length : Int) ≤ (i : Int) by omega), atW_at hlt rfl, e, wrK (n := (i : Int) - (xs.length : Int)) (by omega) (by omega), decide_eq_true rfl] at h
      exact ⟨_, _, _, h, codesK, .inl ⟨rfl, i + 1, rfl, by omega, by omega, rfl⟩⟩
  · rw [decide_eq_false (show ¬ (i : Int) < (ws.length : Int) by omega), cond_false] at h
    exact ⟨_, _, _, h, codesK, .inr ⟨by simp, rfl⟩⟩
def kpC (ws xs : List Int) : Bool := decide (ws = xs ++ marks mkV) && decide (xs.length ≤ 1000000)
noncomputable def kpTree (C : List Int → List Int → Bool) (n1 n2 : Bool) : List PV → Fin
  | [.b b, .n l, .n k, .i i, .l ws, .l xs] => .br (decide (l = 0 ∧ k = ws.length ∧ i = 0) && C ws xs) (.leaf (.exit 0) ((kpX n1 n2).at [.b b, .l ws, .l xs])) .no
  | _ => .no
noncomputable def kpLs (C : List Int → List Int → Bool) (n1 n2 : Bool) : Loops := sums (fun n => match n with | 5 => some (lsumF 3 (kpT n1 n2) kpLp (kpTree C n1 n2)) | _ => none)
theorem kpLs_ok (n1 n2 : Bool) : loopsOk Tryz.prog (kpLs kpC n1 n2) := by
  intro n g hg
  simp only [kpLs, sums] at hg
  split at hg
  · cases hg
    refine lsumF_ok (by cases n1 <;> cases n2 <;> kernel_rfl) (fun rd ps e1 st1 hq => ?_)
    unfold kpTree at hq
    split at hq
    · rename_i b l k i ws xs
      simp only [Fin.pick] at hq
      cases hc : (decide (l = 0 ∧ k = ws.length ∧ i = 0) && kpC ws xs) with
      | false => rw [hc] at hq; cases hq
      | true =>
        rw [hc, cond_true] at hq
        simp only [kpC, Bool.and_eq_true, decide_eq_true_eq] at hc
        obtain ⟨⟨rfl, rfl, rfl⟩, h1, h2⟩ := hc
        cases hq
        exact kp_loop n1 n2 rd b xs h2 ws h1 0 (Nat.zero_le _)
    · cases hq
  · cases hg
theorem kept_eval (C : List Int → List Int → Bool) (n1 n2 : Bool) (len : Nat) (ws xs : List Int) : evalFn Tryz.prog (orcK (tabMk mkV) plainL) (kpLs C n1 n2) 100 31 Tryz.f31 [.view 1 0 1 len, .gs 2] [.ro (.vs []), .rs n1 1 (.ints .i64 ws), .rs n2 1 (.ints .i64 xs)] (fun v _ => some v) =
    bif !decide (Int.ofNat len = Int.ofNat xs.length) then some (.bool false) else bif decide (0 + len ≤ ws.length) then bif decide (0 ≤ (0 : Int) ∧ 0 ≤ wr .i64 (Int.ofNat xs.length + 12) ∧ wr .i64 (Int.ofNat xs.length + 12) ≤ Int.ofNat (ws.length - 0)) then
      cond (codesB [(kpLp, kpLp)]) (bif decide (0 = 0 ∧ (wr .i64 (Int.ofNat xs.length + 12)).toNat - 0 = ws.length ∧ (0 : Int) = 0) && C ws xs then some (.bool true) else none) none else none else none := by cases n1 <;> cases n2 <;> kernel_rfl
theorem kept_fn (n1 n2 : Bool) {ws xs : List Int} {len : Nat} (h : kpC ws xs = true) (hl : len = xs.length) : FnOK Tryz.prog 31 [.view 1 0 1 len, .gs 2] [.ro (.vs []), .rs n1 1 (.ints .i64 ws), .rs n2 1 (.ints .i64 xs)] (.bool true) [.ro (.vs []), .rs n1 1 (.ints .i64 ws), .rs n2 1 (.ints .i64 xs)] := by
  have h' := h
  simp only [kpC, Bool.and_eq_true, decide_eq_true_eq] at h'
  obtain ⟨hw, hx⟩ := h'
  have hwl : ws.length = xs.length + 12 := by rw [hw, List.length_append]; rfl
  have hox : Int.ofNat xs.length = (xs.length : Int) := rfl
  have hv := kept_eval kpC n1 n2 len ws xs
  rw [hl, decide_eq_true (rfl : Int.ofNat xs.length = Int.ofNat xs.length), hox, wrK (n := (xs.length : Int) + 12) (by omega) (by omega), decide_eq_true (show 0 + xs.length ≤ ws.length by omega),
    decide_eq_true (show 0 ≤ (0 : Int) ∧ 0 ≤ (xs.length : Int) + 12 ∧ (xs.length : Int) + 12 ≤ Int.ofNat (ws.length - 0) by refine ⟨by omega, by omega, ?_⟩; show _ ≤ ((ws.length - 0 : Nat) : Int); omega), lpK,
    decide_eq_true (show 0 = 0 ∧ ((xs.length : Int) + 12).toNat - 0 = ws.length ∧ (0 : Int) = 0 by refine ⟨rfl, ?_, rfl⟩; omega), h] at hv
  rw [hl]
  obtain ⟨v1, e1, hk, hok⟩ := evalFn_ok (orcK_ok tabMk_ok plainL_ok) mixed Tryz.func31 (kpLs_ok n1 n2) hv
  cases hk
  refine hok.plain rfl ?_
  intro b blk hb
  match b, hb with
  | 0, hb => cases hb; rfl
  | 1, hb => cases hb; rfl
  | 2, hb => cases hb; rfl
  | _ + 3, hb => simp at hb
def gKept (C : List Int → List Int → Bool) : List V → List Blk → Option (Bool × V × List Blk)
  | [.view 1 0 1 len, .gs 2], [.ro (.vs []), .rs _ 1 (.ints .i64 ws), .rs _ 1 (.ints .i64 xs)] => some (C ws xs && decide (len = xs.length), .bool true, [])
  | _, _ => none
def hTabW (C : List Int → List Int → Bool) : HTab := addH 31 (gKept C) emptyH
theorem hTabW_ok : HTabOk Tryz.prog (hTabW kpC) := by
  refine addH_ok ?_ emptyH_ok
  intro args h c v nb hq hc
  unfold gKept at hq
  split at hq
  · cases hq
    simp only [Bool.and_eq_true, decide_eq_true_eq] at hc
    exact ⟨.of Tryz.func31 (by kernel_rfl), by rw [List.append_nil]; exact kept_fn _ _ hc.1 hc.2⟩
  · cases hq
end Go.Proofs.YtnbfnoomhlamnaaGreat
