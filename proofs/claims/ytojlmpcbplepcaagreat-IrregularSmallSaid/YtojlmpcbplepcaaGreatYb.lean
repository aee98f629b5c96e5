/- Chapter 10: OverBytes, KeptBytes. -/
import Derived.Test.YtojlmpcbplepcaaGreatXz
import Derived.Test.YtojlmpcbplepcaaGreatEng5
namespace Go.Proofs.YtojlmpcbplepcaaGreat
open Go Go.Eng
abbrev RTK := Option (XE × List PV × List (Code × Code))
def gMark (MB : Int → Int → Int) : List V → Option (Bool × V)
  | [.int .i64 k, .int .i64 i] => some (true, .int .u8 (MB k i))
  | _ => none
def tabMb (MB : Int → Int → Int) : PTab := addTab 50 (gMark MB) emptyTab
noncomputable def ovLp : Code := loopOf 2 Tryz.f40
noncomputable def kpLp : Code := loopOf 5 Tryz.f42
def ovT : Tm := ⟨mkS [(2, .view 0 1), (3, .int .i64)] 0 23, [.raw 5 1], []⟩
def ovX : Tm := ⟨mkS [] 0 23, [.raw 5 1], []⟩
def kpT (n1 n2 : Bool) : Tm := ⟨mkS [(1, .gs 2), (4, .bool), (5, .view 1 1), (6, .int .i64)] 0 58, [.ro (.vs []), .rs n1 1 (.ints .u8), .rs n2 1 (.ints .u8)], []⟩
def kpX (n1 n2 : Bool) : Tm := ⟨mkS [(4, .bool)] 0 58, [.ro (.vs []), .rs n1 1 (.ints .u8), .rs n2 1 (.ints .u8)], []⟩
def mbV (k i : Int) : Int := wr .u8 ((wr .u64 (wr .u64 (wr .i64 (wr .i64 (1000003 * wr .i64 (k + 7)) + i)) * 11400714819323198485)).fdiv 72057594037927936)
theorem mb_eval (k i : Int) : evalP emptyTab 50 Tryz.f50 [.int .i64 k, .int .i64 i] = some (.int .u8 (mbV k i)) := by kernel_rfl
theorem tabMb_ok : PTabOk Tryz.prog (tabMb mbV) := by
  refine addTab_ok ?_ emptyTab_ok
  intro args c v h _
  unfold gMark at h
  split at h
  · cases h; exact pure_at emptyTab_ok Tryz.func50 (by kernel_rfl) (mb_eval _ _) rfl rfl
  · cases h
theorem ov_round (MB : Int → Int → Int) (rd : Option Nat) (i : Int) (k n : Nat) : roundT Tryz.prog (orcE (tabMb MB) plainL) noLoops 100 1 rd 40 ovLp ovT ovX [.n 0, .n k, .i i, .n n] =
    bif decide (i < Int.ofNat k) then bif decide (0 ≤ i ∧ i < Int.ofNat k ∧ 0 + k ≤ n) then bif decide (i.toNat + 1 ≤ n) then some (.normal, [.n 0, .n k, .i (wr .i64 (i + 1)), .n n], []) else none else none else some (.exit 0, [.n n], []) := by kernel_rfl
theorem ov_loop (rd : Option Nat) (k n : Nat) (hk : k ≤ n) (hb : k ≤ 1000000000000000) : ∀ i : Nat, i ≤ k → SimC Tryz.prog 1 rd (.loop ovLp) (ovT.at [.n 0, .n k, .i (i : Int), .n n]) (.exit 0) (ovX.at [.n n]) := by
  refine loop_of_rounds (C := orcE (tabMb mbV) plainL) (L := noLoops) (N := 100) (me := 40) (T := ovT) (T' := ovX) (orcE_ok tabMb_ok plainL_ok) mixed noLoops_ok (by kernel_rfl) (by kernel_rfl) (X := Nat)
    (fun i => [.n 0, .n k, .i (i : Int), .n n]) (fun i => i ≤ k) (fun i => k - i) (fun _ => (.exit 0, [.n n])) ?_
  intro i hi
  have h := ov_round mbV rd (i : Int) k n
  rcases Nat.lt_or_ge i k with hlt | hge
  · rw [decide_eq_true (show (i : Int) < Int.ofNat k by show (i : Int) < (k : Int); omega), decide_eq_true (show 0 ≤ (i : Int) ∧ (i : Int) < Int.ofNat k ∧ 0 + k ≤ n by refine ⟨by omega, ?_, by omega⟩; show (i : Int) < (k : Int); omega), decide_eq_true (show (i : Int).toNat + 1 ≤ n by show i + 1 ≤ n; omega), wr64 (by omega) (by omega)] at h
    exact ⟨_, _, _, h, codesNil, .inl ⟨rfl, i + 1, rfl, by omega, by omega, rfl⟩⟩
  · rw [decide_eq_false (show ¬ (i : Int) < Int.ofNat k from fun h => by have : (i : Int) < (k : Int) := h; omega), cond_false] at h
    exact ⟨_, _, _, h, codesNil, .inr ⟨by simp, rfl⟩⟩
noncomputable def ovTree : List PV → Fin
  | [.n l, .n k, .i i, .n n] => .br (decide (l = 0 ∧ i = 0 ∧ k ≤ n ∧ k ≤ 1000000000000000)) (.leaf (.exit 0) (ovX.at [.n n])) .no
  | _ => .no
noncomputable def ovLs : Loops := sums (fun n => match n with | 2 => some (lsumF 1 ovT ovLp ovTree) | _ => none)
theorem ovLs_ok : loopsOk Tryz.prog ovLs := by
  intro n g hg
  simp only [ovLs, sums] at hg
  split at hg
  · cases hg
    refine lsumF_ok (by kernel_rfl) (fun rd ps e1 st1 hq => ?_)
    unfold ovTree at hq
    split at hq
    · rename_i l k i n
      simp only [Fin.pick] at hq
      cases hc : decide (l = 0 ∧ i = 0 ∧ k ≤ n ∧ k ≤ 1000000000000000) with
      | false => rw [hc] at hq; cases hq
      | true =>
        rw [hc, cond_true] at hq
        simp only [decide_eq_true_eq] at hc
        obtain ⟨rfl, rfl, h1, h2⟩ := hc
        cases hq
        exact ov_loop rd k n h1 h2 0 (Nat.zero_le _)
    · cases hq
  · cases hg
def mnN (n len : Nat) : Int := foldI minI (Int.ofNat n) [wr .i64 (Int.ofNat len + 12)]
theorem ov_eval (n len : Nat) : evalFn Tryz.prog (orcE (tabMb mbV) plainL) ovLs 100 40 Tryz.f40 [.view 0 0 1 len] [.raw 5 1 n] (fun v h => some (v, h)) =
    bif decide (0 + len ≤ n) then bif decide (0 ≤ (0 : Int) ∧ 0 ≤ mnN n len ∧ mnN n len ≤ Int.ofNat n) then cond (codesB [(ovLp, ovLp)]) (bif decide (0 = 0 ∧ (0 : Int) = 0 ∧ (mnN n len).toNat - 0 ≤ n ∧ (mnN n len).toNat - 0 ≤ 1000000000000000) then some (.tuple [], [.raw 5 1 n]) else none) none else none else none := by kernel_rfl
theorem ov_nil (ba : Option Addr) : evalFn Tryz.prog (orcE (tabMb mbV) plainL) noLoops 100 40 Tryz.f40 [.flat (.slice ba 0 0)] [] (fun v h => some (v, h)) = some (.tuple [], []) := by kernel_rfl
theorem mnN_is (n len : Nat) (h : len ≤ 70368744177664) : mnN n len = ((min n (len + 12) : Nat) : Int) := by
  unfold mnN
  simp only [foldI, minI]
  have hof : Int.ofNat len = (len : Int) := rfl
  have hon : Int.ofNat n = (n : Int) := rfl
  rw [hof, hon, wr64 (n := (len : Int) + 12) (by omega) (by omega)]
  by_cases hc : (len : Int) + 12 < (n : Int)
  · rw [decide_eq_true hc]; simp only [cond_true]; omega
  · rw [decide_eq_false hc]; simp only [cond_false]; omega
def oTab : PTabO := fun f => bif Nat.beq f 40 then some (5, 1) else none
theorem oTab_ok : PTabOOk Tryz.prog oTab := by
  intro f ty sz hf
  unfold oTab at hf
  cases hb : Nat.beq f 40 with
  | false => rw [hb] at hf; cases hf
  | true =>
    rw [hb] at hf
    have hfe := Nat.eq_of_beq_eq_true hb
    subst hfe
    simp only [cond_true, Option.some.injEq, Prod.mk.injEq] at hf
    obtain ⟨rfl, rfl⟩ := hf
    refine ⟨.of Tryz.func40 (by kernel_rfl), by omega, fun ba => ?_, fun n len h1 h2 => ?_⟩
    · obtain ⟨v1, e1, hk, hok⟩ := evalFn_ok (orcE_ok tabMb_ok plainL_ok) mixed Tryz.func40 noLoops_ok (ov_nil ba)
      cases hk
      exact hok
    · have hv := ov_eval n len
      have hm := mnN_is n len h2
      have hmn : min n (len + 12) ≤ n := Nat.min_le_left _ _
      have hm2 : min n (len + 12) ≤ len + 12 := Nat.min_le_right _ _
      rw [hm, lpCd10, decide_eq_true (show 0 + len ≤ n by omega), decide_eq_true (show 0 ≤ (0 : Int) ∧ 0 ≤ ((min n (len + 12) : Nat) : Int) ∧ ((min n (len + 12) : Nat) : Int) ≤ Int.ofNat n by refine ⟨by omega, by omega, ?_⟩; show _ ≤ (n : Int); omega),
        decide_eq_true (show 0 = 0 ∧ (0 : Int) = 0 ∧ (((min n (len + 12) : Nat) : Int)).toNat - 0 ≤ n ∧ (((min n (len + 12) : Nat) : Int)).toNat - 0 ≤ 1000000000000000 by refine ⟨rfl, rfl, ?_, ?_⟩ <;> omega)] at hv
      obtain ⟨v1, e1, hk, hok⟩ := evalFn_ok (orcE_ok tabMb_ok plainL_ok) mixed Tryz.func40 ovLs_ok hv
      cases hk
      exact hok
noncomputable def atW (ws : List Int) (k : Nat) (i : Int) (K : Int → RTK) : RTK := bif decide (0 ≤ i ∧ i < Int.ofNat k ∧ 0 + k ≤ ws.length) then (match ws[i.toNat]? with | some v => K v | none => none) else none
noncomputable def kpZ (MB : Int → Int → Int) (b : Bool) (k : Nat) (i : Int) (ws xs : List Int) : RTK := bif decide (Int.ofNat xs.length ≤ i) then atW ws k i (fun v => bif !decide (v = MB 1 (wr .i64 (i - Int.ofNat xs.length))) then some (.ret, [.b false, .l ws, .l xs], []) else
  some (.normal, [.b b, .n 0, .n k, .i (wr .i64 (i + 1)), .l ws, .l xs], [])) else some (.normal, [.b b, .n 0, .n k, .i (wr .i64 (i + 1)), .l ws, .l xs], [])
theorem kp_round (MB : Int → Int → Int) (n1 n2 : Bool) (rd : Option Nat) (b : Bool) (k : Nat) (i : Int) (ws xs : List Int) : roundT Tryz.prog (orcE (tabMb MB) plainL) noLoops 100 3 rd 42 kpLp (kpT n1 n2) (kpX n1 n2) [.b b, .n 0, .n k, .i i, .l ws, .l xs] =
    bif decide (i < Int.ofNat k) then bif decide (i < Int.ofNat xs.length) then atW ws k i (fun v => atU xs i (fun w => bif !decide (v = w) then some (.ret, [.b false, .l ws, .l xs], []) else kpZ MB b k i ws xs)) else kpZ MB b k i ws xs else some (.exit 0, [.b b, .l ws, .l xs], []) := by cases n1 <;> cases n2 <;> kernel_rfl
def marks (MB : Int → Int → Int) : List Int := (List.range 12).map fun (i : Nat) => MB 1 (i : Int)
theorem atW_at {ws : List Int} {k i : Nat} (h : i < ws.length) (hk : k = ws.length) {K : Int → RTK} : atW ws k (i : Int) K = K ws[i] := by
  unfold atW
  rw [decide_eq_true (show 0 ≤ (i : Int) ∧ (i : Int) < Int.ofNat k ∧ 0 + k ≤ ws.length by refine ⟨by omega, ?_, by omega⟩; show (i : Int) < (k : Int); omega), show (i : Int).toNat = i from rfl, List.getElem?_eq_getElem h]; rfl
theorem marks_get {MB : Int → Int → Int} {j : Nat} (h : j < 12) (hm : j < (marks MB).length) : (marks MB)[j] = MB 1 (j : Int) := by
  have e : (marks MB)[j]? = some (MB 1 (j : Int)) := by unfold marks; rw [List.getElem?_map, List.getElem?_range h]; rfl
  exact Option.some.inj ((List.getElem?_eq_getElem hm).symm.trans e)
theorem kp_loop (n1 n2 : Bool) (rd : Option Nat) (b : Bool) (xs : List Int) (hl : xs.length ≤ 1000000) (ws : List Int) (hw : ws = xs ++ marks mbV) : ∀ i : Nat, i ≤ ws.length →
    SimC Tryz.prog 3 rd (.loop kpLp) ((kpT n1 n2).at [.b b, .n 0, .n ws.length, .i (i : Int), .l ws, .l xs]) (.exit 0) ((kpX n1 n2).at [.b b, .l ws, .l xs]) := by
  have hwl : ws.length = xs.length + 12 := by rw [hw, List.length_append]; rfl
  refine loop_of_rounds (C := orcE (tabMb mbV) plainL) (L := noLoops) (N := 100) (me := 42) (T := kpT n1 n2) (T' := kpX n1 n2) (orcE_ok tabMb_ok plainL_ok) mixed noLoops_ok (by cases n1 <;> cases n2 <;> kernel_rfl) (by cases n1 <;> cases n2 <;> kernel_rfl) (X := Nat)
    (fun i => [.b b, .n 0, .n ws.length, .i (i : Int), .l ws, .l xs]) (fun i => i ≤ ws.length) (fun i => ws.length - i) (fun _ => (.exit 0, [.b b, .l ws, .l xs])) ?_
  intro i hi
  have h := kp_round mbV n1 n2 rd b ws.length (i : Int) ws xs
  have hof : Int.ofNat ws.length = (ws.length : Int) := rfl
  have hox : Int.ofNat xs.length = (xs.length : Int) := rfl
  unfold kpZ at h
  rw [hof, hox] at h
  rcases Nat.lt_or_ge i ws.length with hlt | hge
  · rw [decide_eq_true (show (i : Int) < (ws.length : Int) by omega), cond_true, wr64 (n := (i : Int) + 1) (by omega) (by omega)] at h
    rcases Nat.lt_or_ge i xs.length with h1 | h1
    · have e : ws[i] = xs[i] := by simp only [hw]; exact List.getElem_append_left h1
      rw [decide_eq_true (show (i : Int) < (xs.length : Int) by omega), cond_true, atW_at hlt rfl, atU_at h1, e, decide_eq_true rfl, decide_eq_false (show ¬ (xs.length : Int) ≤ (i : Int) by omega)] at h
      exact ⟨_, _, _, h, codesNil, .inl ⟨rfl, i + 1, rfl, by omega, by omega, rfl⟩⟩
    · have e : ws[i] = mbV 1 ((i : Int) - (xs.length : Int)) := by
        have hm : i - xs.length < (marks mbV).length := by show i - xs.length < 12; omega
        have e1 : ws[i] = (marks mbV)[i - xs.length]'hm := by simp only [hw]; exact List.getElem_append_right h1
        rw [e1, marks_get (by omega) hm, show ((i - xs.length : Nat) : Int) = (i : Int) - (xs.length : Int) by omega]
      rw [decide_eq_false (show ¬ (i : Int) < (xs.length : Int) by omega), cond_false, decide_eq_true (show (xs.length : Int) ≤ (i : Int) by omega), atW_at hlt rfl, e, wr64 (n := (i : Int) - (xs.length : Int)) (by omega) (by omega), decide_eq_true rfl] at h
      exact ⟨_, _, _, h, codesNil, .inl ⟨rfl, i + 1, rfl, by omega, by omega, rfl⟩⟩
  · rw [decide_eq_false (show ¬ (i : Int) < (ws.length : Int) by omega), cond_false] at h
    exact ⟨_, _, _, h, codesNil, .inr ⟨by simp, rfl⟩⟩
def kpC (ws xs : List Int) : Bool := decide (ws = xs ++ marks mbV) && decide (xs.length ≤ 1000000)
noncomputable def kpTree (C : List Int → List Int → Bool) (n1 n2 : Bool) : List PV → Fin
  | [.b b, .n l, .n k, .i i, .l ws, .l xs] => .br (decide (l = 0 ∧ k = ws.length ∧ i = 0) && C ws xs) (.leaf (.exit 0) ((kpX n1 n2).at [.b b, .l ws, .l xs])) .no
  | _ => .no
noncomputable def kpLs (C : List Int → List Int → Bool) (n1 n2 : Bool) : Loops := sums (fun n => match n with | 5 => some (lsumF 3 (kpT n1 n2) kpLp (kpTree C n1 n2)) | _ => none)
theorem kpLs_ok (n1 n2 : Bool) : loopsOk Tryz.prog (kpLs kpC n1 n2) := by
  intro n g hg
  simp only [kpLs, sums] at hg
  split at hg
  · cases hg
    refine lsumF_ok (by cases n1 <;> cases n2 <;> kernel_rfl) (fun rd ps e1 st1 hq => ?_)
    unfold kpTree at hq
    split at hq
    · rename_i b l k i ws xs
      simp only [Fin.pick] at hq
      cases hc : (decide (l = 0 ∧ k = ws.length ∧ i = 0) && kpC ws xs) with
      | false => rw [hc] at hq; cases hq
      | true =>
        rw [hc, cond_true] at hq
        simp only [kpC, Bool.and_eq_true, decide_eq_true_eq] at hc
        obtain ⟨⟨rfl, rfl, rfl⟩, h1, h2⟩ := hc
        cases hq
        exact kp_loop n1 n2 rd b xs h2 ws h1 0 (Nat.zero_le _)
    · cases hq
  · cases hg
theorem kept_eval (C : List Int → List Int → Bool) (n1 n2 : Bool) (len : Nat) (ws xs : List Int) : evalFn Tryz.prog (orcE (tabMb mbV) plainL) (kpLs C n1 n2) 100 42 Tryz.f42 [.view 1 0 1 len, .gs 2] [.ro (.vs []), .rs n1 1 (.ints .u8 ws), .rs n2 1 (.ints .u8 xs)] (fun v _ => some v) =
    bif !decide (Int.ofNat len = Int.ofNat xs.length) then some (.bool false) else bif decide (0 + len ≤ ws.length) then bif decide (0 ≤ (0 : Int) ∧ 0 ≤ wr .i64 (Int.ofNat xs.length + 12) ∧ wr .i64 (Int.ofNat xs.length + 12) ≤ Int.ofNat (ws.length - 0)) then
      cond (codesB [(kpLp, kpLp)]) (bif decide (0 = 0 ∧ (wr .i64 (Int.ofNat xs.length + 12)).toNat - 0 = ws.length ∧ (0 : Int) = 0) && C ws xs then some (.bool true) else none) none else none else none := by cases n1 <;> cases n2 <;> kernel_rfl
theorem kept_fn (n1 n2 : Bool) {ws xs : List Int} {len : Nat} (h : kpC ws xs = true) (hl : len = xs.length) : FnOK Tryz.prog 42 [.view 1 0 1 len, .gs 2] [.ro (.vs []), .rs n1 1 (.ints .u8 ws), .rs n2 1 (.ints .u8 xs)] (.bool true) [.ro (.vs []), .rs n1 1 (.ints .u8 ws), .rs n2 1 (.ints .u8 xs)] := by
  have h' := h
  simp only [kpC, Bool.and_eq_true, decide_eq_true_eq] at h'
  obtain ⟨hw, hx⟩ := h'
  have hwl : ws.length = xs.length + 12 := by rw [hw, List.length_append]; rfl
  have hox : Int.ofNat xs.length = (xs.length : Int) := rfl
  have hv := kept_eval kpC n1 n2 len ws xs
  rw [hl, decide_eq_true (rfl : Int.ofNat xs.length = Int.ofNat xs.length), hox, wr64 (n := (xs.length : Int) + 12) (by omega) (by omega), decide_eq_true (show 0 + xs.length ≤ ws.length by omega),
    decide_eq_true (show 0 ≤ (0 : Int) ∧ 0 ≤ (xs.length : Int) + 12 ∧ (xs.length : Int) + 12 ≤ Int.ofNat (ws.length - 0) by refine ⟨by omega, by omega, ?_⟩; show _ ≤ ((ws.length - 0 : Nat) : Int); omega), lpCd10,
    decide_eq_true (show 0 = 0 ∧ ((xs.length : Int) + 12).toNat - 0 = ws.length ∧ (0 : Int) = 0 by refine ⟨rfl, ?_, rfl⟩; omega), h] at hv
  rw [hl]
  obtain ⟨v1, e1, hk, hok⟩ := evalFn_ok (orcE_ok tabMb_ok plainL_ok) mixed Tryz.func42 (kpLs_ok n1 n2) hv
  cases hk
  refine hok.plain rfl ?_
  intro b blk hb
  match b, hb with
  | 0, hb => cases hb; rfl
  | 1, hb => cases hb; rfl
  | 2, hb => cases hb; rfl
  | _ + 3, hb => simp at hb
def gKept (C : List Int → List Int → Bool) : List V → List Blk → Option (Bool × V × List Blk)
  | [.view 1 0 1 len, .gs 2], [.ro (.vs []), .rs _ 1 (.ints .u8 ws), .rs _ 1 (.ints .u8 xs)] => some (C ws xs && decide (len = xs.length), .bool true, [])
  | _, _ => none
end Go.Proofs.YtojlmpcbplepcaaGreat
