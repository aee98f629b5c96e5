/- Texts merged: RT, RT2, RT3, RT4. -/
import Derived.Test.YtnhilofmafjdpaaDoorRK3
import Derived.Test.YtnhilofmafjdpaaDoorBk3
/- Chapter 9: the reference: padded; Table's loop: one round. -/
namespace Go.Proofs.YtnhilofmafjdpaaDoor
open Go Go.Eng
def padS (s : ByteArray) : ByteArray := ⟨(cellL s).toArray⟩
def gPad (PD : ByteArray → ByteArray) : List V → Option (Bool × V)
  | [.str s] => some (decide (lenS s ≤ 5), .str (PD s))
  | _ => none
noncomputable def tlLp : Code := loopOf 9 Tryd.f44
def tlT (nn : Bool) : Tm := ⟨mkS [(0, .int .u8), (1, .gs 0), (6, .int .i64), (7, .gs 1), (8, .str), (9, .int .i64)] 0 69, [.rs nn 1 u8s, .grow false 9 1 strsT], []⟩
def tlX (nn : Bool) : Tm := ⟨mkS [(7, .gs 1)] 0 69, [.rs nn 1 u8s, .grow false 9 1 strsT], []⟩
abbrev tabTl (PD : ByteArray → ByteArray) (SE : Int → Int → Int) (TX : Int → ByteArray) (TE : Int → Int) : PTab := addTab 67 (gPad PD) (tabK SE TX TE)
end Go.Proofs.YtnhilofmafjdpaaDoor

/- Chapter 9: the reference: Table's loop: one round. -/
namespace Go.Proofs.YtnhilofmafjdpaaDoor
open Go Go.Eng
def apS (a b : ByteArray) : ByteArray := ⟨(a.data.toList ++ b.data.toList).toArray⟩
noncomputable def tlP (d n i : Int) (ln p : ByteArray) (xs : List Int) (out : List ByteArray) : RT := bif decide (lenS ln + lenS p ≤ 9223372036854775807) then bif decide (Int.ofNat (lenS (apS ln p)) = 20) then bif decide ((out ++ [apS ln p]).length * 17 ≤ 70368744177664) then
  some (.normal, [.i d, .i n, .s ⟨#[]⟩, .i (wr .i64 (i + 1)), .l xs, .ss (out ++ [apS ln p])], []) else none else some (.normal, [.i d, .i n, .s (apS ln p), .i (wr .i64 (i + 1)), .l xs, .ss out], []) else none
noncomputable def tlB (PD : ByteArray → ByteArray) (TX : Int → ByteArray) (d n i k : Int) (ln : ByteArray) (xs : List Int) (out : List ByteArray) : RT := bif decide (k < 0) then tlP d n i ln (PD dashS) xs out else bif decide (k < Int.ofNat xs.length) then
  atU xs k (fun v => bif decide (0 ≤ v ∧ v < 256) then bif decide (lenS (TX v) ≤ 5) then tlP d n i ln (PD (TX v)) xs out else none else none) else bif decide (i < n) then tlP d n i ln (PD askS) xs out else tlP d n i ln (PD noS) xs out
theorem tl_round (R : RH) (PD : ByteArray → ByteArray) (TX : Int → ByteArray) (TE : Int → Int) (nn : Bool) (rd : Option Nat) (d n i : Int) (ln : ByteArray) (xs : List Int) (out : List ByteArray) : roundT Tryd.prog (orcH R (tabTl PD R.SE TX TE) plainL) noLoops 100 1 rd 44 tlLp (tlT nn) (tlX nn) [.i d, .i n, .s ln, .i i, .l xs, .ss out] =
    bif decide (i < n) then tlB PD TX d n i (wr .i64 (i - wr .i64 d)) ln xs out else bif !decide (i.tmod 4 = 0) then tlB PD TX d n i (wr .i64 (i - wr .i64 d)) ln xs out else some (.exit 0, [.l xs, .ss out], []) := by cases nn <;> kernel_rfl
end Go.Proofs.YtnhilofmafjdpaaDoor

/- Chapter 9: the reference: padded. -/
namespace Go.Proofs.YtnhilofmafjdpaaDoor
open Go Go.Eng
noncomputable def padE : Nat → ByteArray → Option V
  | 0, _ => none
  | n + 1, s => bif decide (Int.ofNat (lenS s) < 5) then bif decide (lenS s + 1 ≤ 9223372036854775807) then padE n (apS s blankS) else none else some (.str s)
theorem padded_eval (s : ByteArray) : evalFn Tryd.prog (orcE emptyTab plainL) noLoops 6 67 Tryd.f67 [.str s] [] (fun v _ => some v) = padE 6 s := by kernel_rfl
theorem ap_len (s : ByteArray) : lenS (apS s blankS) = lenS s + 1 := by unfold lenS apS blankS; simp
theorem ap_cell {s : ByteArray} (h : lenS s < 5) : padS (apS s blankS) = padS s := by
  unfold lenS at h
  unfold padS cellL apS blankS
  simp only [List.length_append, List.append_assoc]
  congr 3
  show [32] ++ List.replicate (5 - (s.data.toList.length + 1)) 32 = _
  rw [show 5 - s.data.toList.length = (5 - (s.data.toList.length + 1)) + 1 by omega, List.replicate_succ]; rfl
theorem padE_is : ∀ (n : Nat) (s : ByteArray), lenS s ≤ 5 → 5 < lenS s + n → padE n s = some (.str (padS s))
  | 0, s, h1, h2 => by omega
  | n + 1, s, h1, h2 => by
    unfold padE
    by_cases h : lenS s < 5
    · rw [decide_eq_true (show Int.ofNat (lenS s) < 5 by show (lenS s : Int) < 5; omega), decide_eq_true (show lenS s + 1 ≤ 9223372036854775807 by omega)]
      simp only [cond_true]
      rw [padE_is n _ (by rw [ap_len]; omega) (by rw [ap_len]; omega), ap_cell h]
    · rw [decide_eq_false (show ¬ Int.ofNat (lenS s) < 5 from fun e => by have : (lenS s : Int) < 5 := e; omega)]
      have e : padS s = s := by
        unfold padS cellL
        rw [show 5 - s.data.toList.length = 0 by unfold lenS at h; omega]
        simp
      rw [e]; rfl
theorem padded_p {s : ByteArray} (h : lenS s ≤ 5) : FnPure Tryd.prog 67 [.str s] (.str (padS s)) :=
  fnPure_of_eval (orcE_ok emptyTab_ok plainL_ok) mixed Tryd.func67 (by kernel_rfl) noLoops_ok (by rw [padded_eval, padE_is 6 s h (by omega)]) rfl rfl
theorem tabTl_ok : PTabOk Tryd.prog (tabTl padS rH.SE rtxt rtxE) := by
  refine addTab_ok ?_ (tabRP_ok (tabSe_ok emptyTab_ok))
  intro args c v h hc
  unfold gPad at h
  split at h
  · cases h; exact padded_p (of_decide_eq_true hc)
  · cases h
end Go.Proofs.YtnhilofmafjdpaaDoor

/- Chapter 9: the reference: Table's loop. -/
namespace Go.Proofs.YtnhilofmafjdpaaDoor
open Go Go.Eng
def seg (cs : List ByteArray) (b : Nat) : Nat → List UInt8
  | 0 => []
  | n + 1 => seg cs b n ++ cellL (cellAt cs (4 * b + n))
def lnI (cs : List ByteArray) (i : Nat) : ByteArray := ⟨(seg cs (i / 4) (i % 4)).toArray⟩
def outI (cs : List ByteArray) (i : Nat) : List ByteArray := (List.range (i / 4)).map (lineAt cs)
theorem seg_len {cs : List ByteArray} (h : tidyL cs = true) (b : Nat) : ∀ n, (seg cs b n).length = 5 * n
  | 0 => rfl
  | n + 1 => by
    simp only [seg, List.length_append, seg_len h b n]
    rw [cell_len (of_decide_eq_true (Bool.and_eq_true_iff.1 (cellAt_tidy h _)).1)]; omega
theorem seg4 (cs : List ByteArray) (b : Nat) : lineAt cs b = ⟨(seg cs b 4).toArray⟩ := by
  rw [lineAt_is]
  simp only [seg, List.nil_append, Nat.add_zero]; rfl
theorem tlP_is {cs : List ByteArray} (h : tidyL cs = true) {d n : Int} {i : Nat} {xs : List Int} (hi : i ≤ 2000000) : tlP d n (i : Int) (lnI cs i) (padS (cellAt cs i)) xs (outI cs i) = some (.normal, [.i d, .i n, .s (lnI cs (i + 1)), .i ((i + 1 : Nat) : Int), .l xs, .ss (outI cs (i + 1))], []) := by
  have hl : lenS (lnI cs i) = 5 * (i % 4) := by unfold lenS lnI; simp only; exact seg_len h _ _
  have hp : lenS (padS (cellAt cs i)) = 5 := by
    unfold lenS padS; simp only
    exact cell_len (of_decide_eq_true (Bool.and_eq_true_iff.1 (cellAt_tidy h _)).1)
  have ha : apS (lnI cs i) (padS (cellAt cs i)) = ⟨(seg cs (i / 4) (i % 4 + 1)).toArray⟩ := by
    unfold apS lnI padS
    simp only [seg]
    rw [show 4 * (i / 4) + i % 4 = i by omega]
  have hal : lenS (apS (lnI cs i) (padS (cellAt cs i))) = 5 * (i % 4 + 1) := by rw [ha]; unfold lenS; simp only; exact seg_len h _ _
  unfold tlP
  rw [decide_eq_true (show lenS (lnI cs i) + lenS (padS (cellAt cs i)) ≤ 9223372036854775807 by omega), hal, wr64 (by omega) (by omega)]
  by_cases h3 : i % 4 = 3
  · have e1 : (i + 1) / 4 = i / 4 + 1 := by omega
    have e2 : (i + 1) % 4 = 0 := by omega
    rw [h3, decide_eq_true (show Int.ofNat (5 * (3 + 1)) = 20 from rfl), ha, h3]
    have ho : outI cs i ++ [⟨(seg cs (i / 4) (3 + 1)).toArray⟩] = outI cs (i + 1) := by
      unfold outI
      rw [e1, List.range_succ, List.map_append, List.map_cons, List.map_nil, seg4]
    have hlen : (outI cs (i + 1)).length * 17 ≤ 70368744177664 := by unfold outI; rw [List.length_map, List.length_range]; omega
    rw [ho, decide_eq_true hlen]
    have hz : lnI cs (i + 1) = ⟨#[]⟩ := by unfold lnI; rw [e2]; rfl
    rw [hz]; rfl
  · have e1 : (i + 1) / 4 = i / 4 := by omega
    have e2 : (i + 1) % 4 = i % 4 + 1 := by omega
    rw [decide_eq_false (show ¬ Int.ofNat (5 * (i % 4 + 1)) = 20 from fun e => by have : ((5 * (i % 4 + 1) : Nat) : Int) = 20 := e; omega), ha]
    have ho : outI cs (i + 1) = outI cs i := by unfold outI; rw [e1]
    have hz : lnI cs (i + 1) = ⟨(seg cs (i / 4) (i % 4 + 1)).toArray⟩ := by unfold lnI; rw [e1, e2]
    rw [ho, hz]; rfl
theorem cell_dash {d : Int} {xs : List Int} {o : Bool} {i : Nat} (h : (i : Int) < d) : cellAt (tbC d xs o) i = dashS := by
  unfold cellAt tbC withT dashes
  rw [List.getD_eq_getElem?_getD, List.append_assoc, List.getElem?_append_left (by rw [List.length_replicate]; omega), List.getElem?_replicate, if_pos (by omega)]; rfl
theorem cell_call {d : Int} {xs : List Int} {o : Bool} {i : Nat} (hd : 0 ≤ d) (h : d ≤ (i : Int)) (h2 : i - d.toNat < xs.length) : cellAt (tbC d xs o) i = txt xs[i - d.toNat] := by
  unfold cellAt tbC withT dashes
  rw [List.getD_eq_getElem?_getD, List.append_assoc, List.getElem?_append_right (by rw [List.length_replicate]; omega), List.length_replicate, List.getElem?_append_left (by rw [List.length_map]; exact h2), List.getElem?_map, List.getElem?_eq_getElem h2]; rfl
theorem cell_behind {d : Int} {xs : List Int} {o : Bool} {i : Nat} (hd : 0 ≤ d) (h : d + (xs.length : Int) ≤ (i : Int)) : cellAt (tbC d xs o) i = bif decide ((i : Int) < ((tbC d xs o).length : Int)) then askS else noS := by
  have hl := tbC_len xs hd o
  unfold cellAt
  rw [List.getD_eq_getElem?_getD]
  by_cases hi : i < (tbC d xs o).length
  · rw [decide_eq_true (by omega)]
    cases o with
    | true => simp only [cond_true] at hl; omega
    | false =>
      simp only [cond_false] at hl
      unfold tbC withT dashes
      rw [List.getElem?_append_right (by rw [List.length_append, List.length_replicate, List.length_map]; omega)]
      rw [List.length_append, List.length_replicate, List.length_map, show i - (d.toNat + xs.length) = 0 by omega]; rfl
  · rw [decide_eq_false (by omega), List.getElem?_eq_none (by omega)]; rfl
theorem tlB_is {d : Int} {xs : List Int} {o : Bool} {i : Nat} (hd : 0 ≤ d ∧ d ≤ 3) (hc : allC xs = true) (hl : xs.length ≤ 1000000) (hi : i ≤ 2000000) {ln : ByteArray} {out : List ByteArray} :
    tlB padS rtxt d ((tbC d xs o).length : Int) (i : Int) (wr .i64 ((i : Int) - wr .i64 d)) ln xs out = tlP d ((tbC d xs o).length : Int) (i : Int) ln (padS (cellAt (tbC d xs o) i)) xs out := by
  unfold tlB
  rw [wr64 (n := d) (by omega) (by omega), wr64 (n := (i : Int) - d) (by omega) (by omega)]
  by_cases h1 : (i : Int) < d
  · rw [decide_eq_true (show (i : Int) - d < 0 by omega), cell_dash h1]; rfl
  · rw [decide_eq_false (show ¬ (i : Int) - d < 0 by omega)]
    by_cases h2 : (i : Int) - d < (xs.length : Int)
    · have hk : i - d.toNat < xs.length := by omega
      have hv := allC_get hc hk
      rw [decide_eq_true (show (i : Int) - d < Int.ofNat xs.length from h2), cell_call hd.1 (by omega) hk, show (i : Int) - d = ((i - d.toNat : Nat) : Int) by omega]
      simp only [cond_true, cond_false]
      rw [atU_at hk, decide_eq_true (show 0 ≤ xs[i - d.toNat] ∧ xs[i - d.toNat] < 256 by omega), show rtxt xs[i - d.toNat] = txt xs[i - d.toNat] by unfold rtxt; rw [decide_eq_true hv.2]; rfl]
      have hs := txt_small xs[i - d.toNat]
      rw [lenS_eq] at hs
      rw [decide_eq_true (show lenS (txt xs[i - d.toNat]) ≤ 5 by omega)]; rfl
    · rw [decide_eq_false (show ¬ (i : Int) - d < Int.ofNat xs.length from h2), cell_behind hd.1 (by omega)]
      simp only [cond_false]
      cases decide ((i : Int) < ((tbC d xs o).length : Int)) <;> rfl
theorem tl_loop (nn : Bool) (rd : Option Nat) (d : Int) (xs : List Int) (o : Bool) (hd : 0 ≤ d ∧ d ≤ 3) (hc : allC xs = true) (hl : xs.length ≤ 1000000) : ∀ i : Nat, i ≤ 4 * (((tbC d xs o).length + 3) / 4) →
    SimC Tryd.prog 1 rd (.loop tlLp) ((tlT nn).at [.i d, .i ((tbC d xs o).length : Int), .s (lnI (tbC d xs o) i), .i (i : Int), .l xs, .ss (outI (tbC d xs o) i)]) (.exit 0) ((tlX nn).at [.l xs, .ss (lns (tbC d xs o))]) := by
  have htl := tbC_len (d := d) xs hd.1 o
  have hcl : (tbC d xs o).length ≤ 1000004 := by cases o <;> simp only [cond_true, cond_false] at htl <;> omega
  have htd := tbC_tidy (d := d) hc o
  refine loop_of_rounds (C := orcH rH (tabTl padS rH.SE rtxt rtxE) plainL) (L := noLoops) (N := 100) (me := 44) (T := tlT nn) (T' := tlX nn) (orcH_ok tabTl_ok plainL_ok) mixed noLoops_ok (by cases nn <;> kernel_rfl) (by cases nn <;> kernel_rfl) (X := Nat)
    (fun i => [.i d, .i ((tbC d xs o).length : Int), .s (lnI (tbC d xs o) i), .i (i : Int), .l xs, .ss (outI (tbC d xs o) i)]) (fun i => i ≤ 4 * (((tbC d xs o).length + 3) / 4)) (fun i => 4 * (((tbC d xs o).length + 3) / 4) - i) (fun _ => (.exit 0, [.l xs, .ss (lns (tbC d xs o))])) ?_
  intro i hi
  have h := tl_round rH padS rtxt rtxE nn rd d ((tbC d xs o).length : Int) (i : Int) (lnI (tbC d xs o) i) xs (outI (tbC d xs o) i)
  rw [tlB_is hd hc hl (by omega), tlP_is htd (by omega)] at h
  rw [Int.tmod_eq_emod_of_nonneg (by omega : (0 : Int) ≤ (i : Int))] at h
  by_cases h1 : i < (tbC d xs o).length
  · rw [decide_eq_true (show (i : Int) < ((tbC d xs o).length : Int) by omega)] at h
    exact ⟨_, _, _, h, codes0, .inl ⟨rfl, i + 1, rfl, by omega, by omega, rfl⟩⟩
  · rw [decide_eq_false (show ¬ (i : Int) < ((tbC d xs o).length : Int) by omega)] at h
    by_cases h2 : i % 4 = 0
    · rw [decide_eq_true (show (i : Int) % 4 = 0 by omega)] at h
      have e : i / 4 = ((tbC d xs o).length + 3) / 4 := by omega
      refine ⟨_, _, _, h, codes0, .inr ⟨by simp, ?_⟩⟩
      unfold outI lns
      rw [e]
    · rw [decide_eq_false (show ¬ (i : Int) % 4 = 0 by omega)] at h
      exact ⟨_, _, _, h, codes0, .inl ⟨rfl, i + 1, rfl, by omega, by omega, rfl⟩⟩
end Go.Proofs.YtnhilofmafjdpaaDoor
