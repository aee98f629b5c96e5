/- Chapter 9: KeptTexts, of a slice of strings with the marks behind it. -/
import Derived.Test.YtnhilofmafjdpaaDoorRQ5
import Derived.Test.YtnhilofmafjdpaaDoorRU
namespace Go.Proofs.YtnhilofmafjdpaaDoor
open Go Go.Eng
def gMarkT (MT : Int → Int → ByteArray) : List V → Option (Bool × V)
  | [.int .i64 k, .int .i64 i] => some (true, .str (MT k i))
  | _ => none
def tabMt (MT : Int → Int → ByteArray) : PTab := addTab 72 (gMarkT MT) emptyTab
def mtV (k i : Int) : ByteArray := bytesOf [35, wr .u8 k, wr .u8 (k.fdiv (2 ^ shAmt .i64 8)), wr .u8 (k.fdiv (2 ^ shAmt .i64 16)), 47, wr .u8 i, wr .u8 (i.fdiv (2 ^ shAmt .i64 8)), wr .u8 (i.fdiv (2 ^ shAmt .i64 16))]
theorem mt_eval (k i : Int) : evalP emptyTab 72 Tryd.f72 [.int .i64 k, .int .i64 i] = some (.str (mtV k i)) := by kernel_rfl
theorem tabMt_ok : PTabOk Tryd.prog (tabMt mtV) := by
  refine addTab_ok ?_ emptyTab_ok
  intro args c v h _
  unfold gMarkT at h
  split at h
  · cases h; exact pure_at emptyTab_ok Tryd.func72 (by kernel_rfl) (mt_eval _ _) rfl rfl
  · cases h
noncomputable def ksLp : Code := loopOf 5 Tryd.f55
def ksT (n1 n2 : Bool) : Tm := ⟨mkS [(1, .gs 2), (4, .bool), (5, .view 1 1), (6, .int .i64)] 0 58, [.ro (.vs []), .rs n1 1 strsT, .rs n2 1 strsT], []⟩
def ksX (n1 n2 : Bool) : Tm := ⟨mkS [(4, .bool)] 0 58, [.ro (.vs []), .rs n1 1 strsT, .rs n2 1 strsT], []⟩
noncomputable def atWs (ws : List ByteArray) (k : Nat) (i : Int) (K : ByteArray → RT) : RT := bif decide (0 ≤ i ∧ i < Int.ofNat k ∧ 0 + k ≤ ws.length) then (match ws[i.toNat]? with | some v => K v | none => none) else none
noncomputable def ksZ (MT : Int → Int → ByteArray) (b : Bool) (k : Nat) (i : Int) (ws xs : List ByteArray) : RT := bif decide (Int.ofNat xs.length ≤ i) then atWs ws k i (fun v => bif !strEq v (MT 1 (wr .i64 (i - Int.ofNat xs.length))) then some (.ret, [.b false, .ss ws, .ss xs], []) else
  some (.normal, [.b b, .n 0, .n k, .i (wr .i64 (i + 1)), .ss ws, .ss xs], [])) else some (.normal, [.b b, .n 0, .n k, .i (wr .i64 (i + 1)), .ss ws, .ss xs], [])
theorem ks_round (MT : Int → Int → ByteArray) (n1 n2 : Bool) (rd : Option Nat) (b : Bool) (k : Nat) (i : Int) (ws xs : List ByteArray) : roundT Tryd.prog (orcE (tabMt MT) plainL) noLoops 100 3 rd 55 ksLp (ksT n1 n2) (ksX n1 n2) [.b b, .n 0, .n k, .i i, .ss ws, .ss xs] =
    bif decide (i < Int.ofNat k) then bif decide (i < Int.ofNat xs.length) then atWs ws k i (fun v => atS xs i (fun w => bif !strEq v w then some (.ret, [.b false, .ss ws, .ss xs], []) else ksZ MT b k i ws xs)) else ksZ MT b k i ws xs else some (.exit 0, [.b b, .ss ws, .ss xs], []) := by cases n1 <;> cases n2 <;> kernel_rfl
def marksT (MT : Int → Int → ByteArray) : List ByteArray := (List.range 12).map fun (i : Nat) => MT 1 (i : Int)
theorem atWs_at {ws : List ByteArray} {k i : Nat} (h : i < ws.length) (hk : k = ws.length) {K : ByteArray → RT} : atWs ws k (i : Int) K = K ws[i] := by
  unfold atWs
  rw [decide_eq_true (show 0 ≤ (i : Int) ∧ (i : Int) < Int.ofNat k ∧ 0 + k ≤ ws.length by refine ⟨by omega, ?_, by omega⟩; show (i : Int) < (k : Int); omega), show (i : Int).toNat = i from rfl, List.getElem?_eq_getElem h]; rfl
theorem marksT_get {MT : Int → Int → ByteArray} {j : Nat} (h : j < 12) (hm : j < (marksT MT).length) : (marksT MT)[j] = MT 1 (j : Int) := by
  have e : (marksT MT)[j]? = some (MT 1 (j : Int)) := by unfold marksT; rw [List.getElem?_map, List.getElem?_range h]; rfl
  exact Option.some.inj ((List.getElem?_eq_getElem hm).symm.trans e)
theorem ks_loop (n1 n2 : Bool) (rd : Option Nat) (b : Bool) (xs : List ByteArray) (hl : xs.length ≤ 1000000) (ws : List ByteArray) (hw : ws = xs ++ marksT mtV) : ∀ i : Nat, i ≤ ws.length →
    SimC Tryd.prog 3 rd (.loop ksLp) ((ksT n1 n2).at [.b b, .n 0, .n ws.length, .i (i : Int), .ss ws, .ss xs]) (.exit 0) ((ksX n1 n2).at [.b b, .ss ws, .ss xs]) := by
  have hwl : ws.length = xs.length + 12 := by rw [hw, List.length_append]; rfl
  refine loop_of_rounds (C := orcE (tabMt mtV) plainL) (L := noLoops) (N := 100) (me := 55) (T := ksT n1 n2) (T' := ksX n1 n2) (orcE_ok tabMt_ok plainL_ok) mixed noLoops_ok (by cases n1 <;> cases n2 <;> kernel_rfl) (by cases n1 <;> cases n2 <;> kernel_rfl) (X := Nat)
    (fun i => [.b b, .n 0, .n ws.length, .i (i : Int), .ss ws, .ss xs]) (fun i => i ≤ ws.length) (fun i => ws.length - i) (fun _ => (.exit 0, [.b b, .ss ws, .ss xs])) ?_
  intro i hi
  have h := ks_round mtV n1 n2 rd b ws.length (i : Int) ws xs
  have hof : Int.ofNat ws.length = (ws.length : Int) := rfl
  have hox : Int.ofNat xs.length = (xs.length : Int) := rfl
  unfold ksZ at h
  rw [hof, hox] at h
  rcases Nat.lt_or_ge i ws.length with hlt | hge
  · rw [decide_eq_true (show (i : Int) < (ws.length : Int) by omega), cond_true, wr64 (n := (i : Int) + 1) (by omega) (by omega)] at h
    rcases Nat.lt_or_ge i xs.length with h1 | h1
    · have e : ws[i] = xs[i] := by simp only [hw]; exact List.getElem_append_left h1
      rw [decide_eq_true (show (i : Int) < (xs.length : Int) by omega), cond_true, atWs_at hlt rfl, atS_at h1, e, strEq_iff.2 rfl, decide_eq_false (show ¬ (xs.length : Int) ≤ (i : Int) by omega)] at h
      exact ⟨_, _, _, h, codes0, .inl ⟨rfl, i + 1, rfl, by omega, by omega, rfl⟩⟩
    · have e : ws[i] = mtV 1 ((i : Int) - (xs.length : Int)) := by
        have hm : i - xs.length < (marksT mtV).length := by show i - xs.length < 12; omega
        have e1 : ws[i] = (marksT mtV)[i - xs.length]'hm := by simp only [hw]; exact List.getElem_append_right h1
        rw [e1, marksT_get (by omega) hm, show ((i - xs.length : Nat) : Int) = (i : Int) - (xs.length : Int) by omega]
      rw [decide_eq_false (show ¬ (i : Int) < (xs.length : Int) by omega), cond_false, decide_eq_true (show (xs.length : Int) ≤ (i : Int) by omega), atWs_at hlt rfl, e, wr64 (n := (i : Int) - (xs.length : Int)) (by omega) (by omega), strEq_iff.2 rfl] at h
      exact ⟨_, _, _, h, codes0, .inl ⟨rfl, i + 1, rfl, by omega, by omega, rfl⟩⟩
  · rw [decide_eq_false (show ¬ (i : Int) < (ws.length : Int) by omega), cond_false] at h
    exact ⟨_, _, _, h, codes0, .inr ⟨by simp, rfl⟩⟩
noncomputable def ksC (ws xs : List ByteArray) : Bool := pB (ws = xs ++ marksT mtV) && decide (xs.length ≤ 1000000)
noncomputable def ksTree (C : List ByteArray → List ByteArray → Bool) (n1 n2 : Bool) : List PV → Fin
  | [.b b, .n l, .n k, .i i, .ss ws, .ss xs] => .br (decide (l = 0 ∧ k = ws.length ∧ i = 0) && C ws xs) (.leaf (.exit 0) ((ksX n1 n2).at [.b b, .ss ws, .ss xs])) .no
  | _ => .no
noncomputable def ksLs (C : List ByteArray → List ByteArray → Bool) (n1 n2 : Bool) : Loops := sums (fun n => match n with | 5 => some (lsumF 3 (ksT n1 n2) ksLp (ksTree C n1 n2)) | _ => none)
theorem ksLs_ok (n1 n2 : Bool) : loopsOk Tryd.prog (ksLs ksC n1 n2) := by
  intro n g hg
  simp only [ksLs, sums] at hg
  split at hg
  · cases hg
    refine lsumF_ok (by cases n1 <;> cases n2 <;> kernel_rfl) (fun rd ps e1 st1 hq => ?_)
    unfold ksTree at hq
    split at hq
    · rename_i b l k i ws xs
      simp only [Fin.pick] at hq
      cases hc : (decide (l = 0 ∧ k = ws.length ∧ i = 0) && ksC ws xs) with
      | false => rw [hc] at hq; cases hq
      | true =>
        rw [hc, cond_true] at hq
        simp only [ksC, Bool.and_eq_true, decide_eq_true_eq, pB_iff] at hc
        obtain ⟨⟨rfl, rfl, rfl⟩, h1, h2⟩ := hc
        cases hq
        exact ks_loop n1 n2 rd b xs h2 ws h1 0 (Nat.zero_le _)
    · cases hq
  · cases hg
theorem keptT_eval (C : List ByteArray → List ByteArray → Bool) (n1 n2 : Bool) (len : Nat) (ws xs : List ByteArray) : evalFn Tryd.prog (orcE (tabMt mtV) plainL) (ksLs C n1 n2) 100 55 Tryd.f55 [.view 1 0 1 len, .gs 2] [.ro (.vs []), .rs n1 1 (.strs ws), .rs n2 1 (.strs xs)] (fun v _ => some v) =
    bif !decide (Int.ofNat len = Int.ofNat xs.length) then some (.bool false) else bif decide (0 + len ≤ ws.length) then bif decide (0 ≤ (0 : Int) ∧ 0 ≤ wr .i64 (Int.ofNat xs.length + 12) ∧ wr .i64 (Int.ofNat xs.length + 12) ≤ Int.ofNat (ws.length - 0)) then
      cond (codesB [(ksLp, ksLp)]) (bif decide (0 = 0 ∧ (wr .i64 (Int.ofNat xs.length + 12)).toNat - 0 = ws.length ∧ (0 : Int) = 0) && C ws xs then some (.bool true) else none) none else none else none := by cases n1 <;> cases n2 <;> kernel_rfl
theorem keptT_fn (n1 n2 : Bool) {ws xs : List ByteArray} {len : Nat} (h : ksC ws xs = true) (hl : len = xs.length) : FnOK Tryd.prog 55 [.view 1 0 1 len, .gs 2] [.ro (.vs []), .rs n1 1 (.strs ws), .rs n2 1 (.strs xs)] (.bool true) [.ro (.vs []), .rs n1 1 (.strs ws), .rs n2 1 (.strs xs)] := by
  have h' := h
  simp only [ksC, Bool.and_eq_true, decide_eq_true_eq, pB_iff] at h'
  obtain ⟨hw, hx⟩ := h'
  have hwl : ws.length = xs.length + 12 := by rw [hw, List.length_append]; rfl
  have hox : Int.ofNat xs.length = (xs.length : Int) := rfl
  have hv := keptT_eval ksC n1 n2 len ws xs
  rw [hl, decide_eq_true (rfl : Int.ofNat xs.length = Int.ofNat xs.length), hox, wr64 (n := (xs.length : Int) + 12) (by omega) (by omega), decide_eq_true (show 0 + xs.length ≤ ws.length by omega),
    decide_eq_true (show 0 ≤ (0 : Int) ∧ 0 ≤ (xs.length : Int) + 12 ∧ (xs.length : Int) + 12 ≤ Int.ofNat (ws.length - 0) by refine ⟨by omega, by omega, ?_⟩; show _ ≤ ((ws.length - 0 : Nat) : Int); omega), lpCd,
    decide_eq_true (show 0 = 0 ∧ ((xs.length : Int) + 12).toNat - 0 = ws.length ∧ (0 : Int) = 0 by refine ⟨rfl, ?_, rfl⟩; omega), h] at hv
  rw [hl]
  obtain ⟨v1, e1, hk, hok⟩ := evalFn_ok (orcE_ok tabMt_ok plainL_ok) mixed Tryd.func55 (ksLs_ok n1 n2) hv
  cases hk
  refine hok.plain rfl ?_
  intro b blk hb
  match b, hb with
  | 0, hb => cases hb; rfl
  | 1, hb => cases hb; rfl
  | 2, hb => cases hb; rfl
  | _ + 3, hb => simp at hb
def gKeptT (C : List ByteArray → List ByteArray → Bool) : List V → List Blk → Option (Bool × V × List Blk)
  | [.view 1 0 1 len, .gs 2], [.ro (.vs []), .rs _ 1 (.strs ws), .rs _ 1 (.strs xs)] => some (C ws xs && decide (len = xs.length), .bool true, [])
  | _, _ => none
def hTabWs (C : List ByteArray → List ByteArray → Bool) : HTab := addH 55 (gKeptT C) emptyH
theorem hTabWs_ok : HTabOk Tryd.prog (hTabWs ksC) := by
  refine addH_ok ?_ emptyH_ok
  intro args h c v nb hq hc
  unfold gKeptT at hq
  split at hq
  · cases hq
    simp only [Bool.and_eq_true, decide_eq_true_eq] at hc
    exact ⟨.of Tryd.func55 (by kernel_rfl), by rw [List.append_nil]; exact keptT_fn _ _ hc.1 hc.2⟩
  · cases hq
end Go.Proofs.YtnhilofmafjdpaaDoor
