/- Texts merged: Tb, Tb2, Tb3, Tb4, Tb5. -/
import Derived.Test.YtnhilofmafjdpaaDoorLst
import Derived.Test.YtnhilofmafjdpaaDoorBld
/- Chapter 9: Table: its loops. -/
namespace Go.Proofs.YtnhilofmafjdpaaDoor
open Go Go.Eng
def textsL : List ByteArray := [⟨#[80]⟩, ⟨#[88]⟩, ⟨#[88, 88]⟩, ⟨#[49, 67]⟩, ⟨#[49, 68]⟩, ⟨#[49, 72]⟩, ⟨#[49, 83]⟩, ⟨#[49, 78, 84]⟩, ⟨#[50, 67]⟩, ⟨#[50, 68]⟩, ⟨#[50, 72]⟩, ⟨#[50, 83]⟩, ⟨#[50, 78, 84]⟩, ⟨#[51, 67]⟩, ⟨#[51, 68]⟩, ⟨#[51, 72]⟩, ⟨#[51, 83]⟩, ⟨#[51, 78, 84]⟩, ⟨#[52, 67]⟩, ⟨#[52, 68]⟩, ⟨#[52, 72]⟩, ⟨#[52, 83]⟩, ⟨#[52, 78, 84]⟩, ⟨#[53, 67]⟩, ⟨#[53, 68]⟩, ⟨#[53, 72]⟩, ⟨#[53, 83]⟩, ⟨#[53, 78, 84]⟩, ⟨#[54, 67]⟩, ⟨#[54, 68]⟩, ⟨#[54, 72]⟩, ⟨#[54, 83]⟩, ⟨#[54, 78, 84]⟩, ⟨#[55, 67]⟩, ⟨#[55, 68]⟩, ⟨#[55, 72]⟩, ⟨#[55, 83]⟩, ⟨#[55, 78, 84]⟩]
def lineS (a b c d : ByteArray) : ByteArray := ⟨(cellL a ++ cellL b ++ cellL c ++ cellL d).toArray⟩
def gLine (LN : ByteArray → ByteArray → ByteArray → ByteArray → ByteArray) : List V → Option (Bool × V)
  | [.agg [.str a, .str b, .str c, .str d]] => some (decide (a.size ≤ 5 ∧ b.size ≤ 5 ∧ c.size ≤ 5 ∧ d.size ≤ 5), .str (LN a b c d))
  | _ => none
def tabT (CH : St → Int → Int) (OV : St → Bool) (LN : ByteArray → ByteArray → ByteArray → ByteArray → ByteArray) : PTab := addTab 48 (gLine LN) (tabO CH OV)
theorem tabT_ok : PTabOk Tryd.prog (tabT chk ovr lineS) := by
  refine addTab_ok ?_ tabO_ok
  intro args c v h hc
  unfold gLine at h
  split at h
  · cases h
    simp only [decide_eq_true_eq] at hc
    exact pure_of_below (.of Tryd.func48 (by kernel_rfl)) rfl rfl fun w => line_p _ _ _ _ w hc.1 hc.2.1 hc.2.2.1 hc.2.2.2
  · cases h
def strsT : TR := .strs
noncomputable def t1Lp : Code := loopOf 6 Tryd.f20
noncomputable def t2Lp : Code := loopOf 10 Tryd.f20
noncomputable def t3Lp : Code := loopOf 19 Tryd.f20
def t1T (nn : Bool) : Tm := ⟨mkS [(1, .gs 1), (6, .ptr 2 0), (9, .gs 3), (30, .int .u8), (31, .int .u8)] 0 76, [.glob 0 strsT, .rs nn 1 u8s, .own 70 (.vs tvS), .grow true 9 1 strsT], []⟩
def t1X (nn : Bool) : Tm := ⟨mkS [(1, .gs 1), (6, .ptr 2 0), (9, .gs 3)] 0 76, [.glob 0 strsT, .rs nn 1 u8s, .own 70 (.vs tvS), .grow true 9 1 strsT], []⟩
def t2T (nn : Bool) : Tm := ⟨mkS [(6, .ptr 2 0), (9, .gs 3), (37, .gs 1), (38, .int .i64), (39, .int .i64)] 0 76, [.glob 0 strsT, .rs nn 1 u8s, .own 70 (.vs tvS), .grow true 9 1 strsT], []⟩
def t2X (nn : Bool) : Tm := ⟨mkS [(6, .ptr 2 0), (9, .gs 3)] 0 76, [.glob 0 strsT, .rs nn 1 u8s, .own 70 (.vs tvS), .grow true 9 1 strsT], []⟩
def t3T (nn : Bool) : Tm := ⟨mkS [(9, .gs 2), (14, .gs 3), (15, .int .i64)] 0 76, [.glob 0 strsT, .rs nn 1 u8s, .grow true 9 1 strsT, .grow false 9 1 strsT], []⟩
def t3X (nn : Bool) : Tm := ⟨mkS [(14, .gs 2)] 0 76, [.glob 0 strsT, .rs nn 1 u8s, .grow false 9 1 strsT], []⟩
noncomputable abbrev orcT (CH : St → Int → Int) (OV : St → Bool) (LN : ByteArray → ByteArray → ByteArray → ByteArray → ByteArray) (F : Int → List Int → FR) : Oracle := orc1 (tabT CH OV LN) F plainL
end Go.Proofs.YtnhilofmafjdpaaDoor

/- Chapter 9: Table: one round of each loop. -/
namespace Go.Proofs.YtnhilofmafjdpaaDoor
open Go Go.Eng
def dashS : ByteArray := ⟨#[45]⟩
def askS : ByteArray := ⟨#[63]⟩
def noS : ByteArray := ⟨#[]⟩
abbrev LNT := ByteArray → ByteArray → ByteArray → ByteArray → ByteArray
theorem t1_round (CH : St → Int → Int) (OV : St → Bool) (LN : LNT) (nn : Bool) (rd : Option Nat) (n i : Int) (tl cs : List ByteArray) (xs : List Int) (s : St) : roundT Tryd.prog (orcE (tabT CH OV LN) plainL) noLoops 100 2 rd 20 t1Lp (t1T nn) (t1X nn) (.i n :: .i i :: .ss tl :: .l xs :: s.pv [.ss cs]) =
    bif decide (i < n) then bif decide ((cs ++ [dashS]).length * 17 ≤ 70368744177664) then some (.normal, .i n :: .i (wr .u8 (i + 1)) :: .ss tl :: .l xs :: s.pv [.ss (cs ++ [dashS])], []) else none else some (.exit 0, .ss tl :: .l xs :: s.pv [.ss cs], []) := by cases nn <;> kernel_rfl
def atB {α : Type} (l : List ByteArray) (c : Int) (K : ByteArray → Option α) : Option α := bif decide (0 ≤ c ∧ c < 38) then (match l[c.toNat]? with | some v => K v | none => none) else none
theorem t2_round (CH : St → Int → Int) (OV : St → Bool) (LN : LNT) (nn : Bool) (rd : Option Nat) (n i : Int) (tl cs : List ByteArray) (xs : List Int) (s : St) : roundT Tryd.prog (orcE (tabT CH OV LN) plainL) noLoops 100 2 rd 20 t2Lp (t2T nn) (t2X nn) (.i n :: .i i :: .ss tl :: .l xs :: s.pv [.ss cs]) =
    bif decide (i < n) then atU xs i (fun c => bif !decide (c ≤ 37) then (bif decide ((cs ++ [noS]).length * 17 ≤ 70368744177664) then some (.normal, .i n :: .i (wr .i64 (i + 1)) :: .ss tl :: .l xs :: s.pv [.ss (cs ++ [noS])], []) else none) else
      atB tl c (fun t => bif decide ((cs ++ [t]).length * 17 ≤ 70368744177664) then some (.normal, .i n :: .i (wr .i64 (i + 1)) :: .ss tl :: .l xs :: s.pv [.ss (cs ++ [t])], []) else none)) else some (.exit 2, .ss tl :: .l xs :: s.pv [.ss cs], []) := by cases nn <;> kernel_rfl
end Go.Proofs.YtnhilofmafjdpaaDoor

/- Chapter 9: Table: one round of its third loop. -/
namespace Go.Proofs.YtnhilofmafjdpaaDoor
open Go Go.Eng
def qC (cs : List ByteArray) (i : Int) (k : Nat) : ByteArray := bif decide (k < (Int.ofNat cs.length).toNat - i.toNat) then cs.getD (i.toNat + k) noS else noS
def q4 (cs : List ByteArray) (i : Int) : Bool := decide ((qC cs i 0).size ≤ 5 ∧ (qC cs i 1).size ≤ 5 ∧ (qC cs i 2).size ≤ 5 ∧ (qC cs i 3).size ≤ 5)
theorem t3_round (CH : St → Int → Int) (OV : St → Bool) (LN : LNT) (nn : Bool) (rd : Option Nat) (i : Int) (tl cs ts : List ByteArray) (xs : List Int) : roundT Tryd.prog (orcE (tabT CH OV LN) plainL) noLoops 100 2 rd 20 t3Lp (t3T nn) (t3X nn) [.i i, .ss tl, .l xs, .ss cs, .ss ts] =
    bif decide (i < Int.ofNat cs.length) then bif decide (0 ≤ i ∧ i ≤ Int.ofNat cs.length ∧ Int.ofNat cs.length ≤ Int.ofNat cs.length) then bif decide (i.toNat + ((Int.ofNat cs.length).toNat - i.toNat) ≤ cs.length) then
      bif q4 cs i then bif decide ((ts ++ [LN (qC cs i 0) (qC cs i 1) (qC cs i 2) (qC cs i 3)]).length * 17 ≤ 70368744177664) then some (.normal, [.i (wr .i64 (i + 4)), .ss tl, .l xs, .ss cs, .ss (ts ++ [LN (qC cs i 0) (qC cs i 1) (qC cs i 2) (qC cs i 3)])], []) else none else none else none else none else some (.exit 4, [.ss tl, .l xs, .ss ts], []) := by cases nn <;> kernel_rfl
end Go.Proofs.YtnhilofmafjdpaaDoor

/- Chapter 9: Table: its loops as a whole. -/
namespace Go.Proofs.YtnhilofmafjdpaaDoor
open Go Go.Eng
def dashes (n : Int) : List ByteArray := List.replicate n.toNat dashS
theorem t1_loop (nn : Bool) (rd : Option Nat) (n : Nat) (hn : n < 256) (tl : List ByteArray) (xs : List Int) (s : St) : ∀ i : Nat, i ≤ n →
    SimC Tryd.prog 2 rd (.loop t1Lp) ((t1T nn).at (.i (n : Int) :: .i (i : Int) :: .ss tl :: .l xs :: s.pv [.ss (List.replicate i dashS)])) (.exit 0) ((t1X nn).at (.ss tl :: .l xs :: s.pv [.ss (List.replicate n dashS)])) := by
  refine loop_of_rounds (C := orcE (tabT chk ovr lineS) plainL) (L := noLoops) (N := 100) (me := 20) (T := t1T nn) (T' := t1X nn) (orcE_ok tabT_ok plainL_ok) mixed noLoops_ok (by cases nn <;> kernel_rfl) (by cases nn <;> kernel_rfl) (X := Nat)
    (fun i => .i (n : Int) :: .i (i : Int) :: .ss tl :: .l xs :: s.pv [.ss (List.replicate i dashS)]) (fun i => i ≤ n) (fun i => n - i) (fun _ => (.exit 0, .ss tl :: .l xs :: s.pv [.ss (List.replicate n dashS)])) ?_
  intro i hi
  have h := t1_round chk ovr lineS nn rd (n : Int) (i : Int) tl (List.replicate i dashS) xs s
  rcases Nat.lt_or_ge i n with hlt | hge
  · have e : List.replicate i dashS ++ [dashS] = List.replicate (i + 1) dashS := (List.replicate_succ').symm
    have hw : wr .u8 ((i : Int) + 1) = ((i + 1 : Nat) : Int) := by rw [wr_u8_id (by omega)]; omega
    rw [decide_eq_true (show (i : Int) < (n : Int) by omega), cond_true, e, decide_eq_true (show (List.replicate (i + 1) dashS).length * 17 ≤ 70368744177664 by rw [List.length_replicate]; omega), cond_true, hw] at h
    exact ⟨_, _, _, h, codes0, .inl ⟨rfl, i + 1, rfl, by omega, by omega, rfl⟩⟩
  · rw [decide_eq_false (show ¬ (i : Int) < (n : Int) by omega), cond_false] at h
    obtain rfl : i = n := by omega
    exact ⟨_, _, _, h, codes0, .inr ⟨by simp, rfl⟩⟩
def txt (c : Int) : ByteArray := textsL.getD c.toNat ⟨#[]⟩
theorem txt_get {c : Int} (h : 0 ≤ c ∧ c ≤ 37) : textsL[c.toNat]? = some (txt c) := by
  have hl : c.toNat < textsL.length := by rw [show textsL.length = 38 from rfl]; omega
  unfold txt
  rw [List.getD_eq_getElem?_getD, List.getElem?_eq_getElem hl]; rfl
def allC : List Int → Bool
  | [] => true
  | c :: r => okC c && allC r
theorem allC_get : ∀ {l : List Int}, allC l = true → ∀ {i : Nat} (hi : i < l.length), 0 ≤ l[i] ∧ l[i] ≤ 37
  | c :: r, h, 0, _ => by
    simp only [allC, okC, Bool.and_eq_true, decide_eq_true_eq] at h
    exact h.1
  | c :: r, h, i + 1, hi => by
    simp only [allC, Bool.and_eq_true] at h
    exact allC_get h.2 (i := i) (by simpa using hi)
def withT (cs : List ByteArray) (xs : List Int) : List ByteArray := cs ++ xs.map txt
theorem t2_loop (nn : Bool) (rd : Option Nat) (xs : List Int) (hc : allC xs = true) (hl : xs.length ≤ 1000000) (cs : List ByteArray) (hcs : cs.length ≤ 300) (s : St) : ∀ i : Nat, i ≤ xs.length →
    SimC Tryd.prog 2 rd (.loop t2Lp) ((t2T nn).at (.i (xs.length : Int) :: .i (i : Int) :: .ss textsL :: .l xs :: s.pv [.ss (withT cs (xs.take i))])) (.exit 2) ((t2X nn).at (.ss textsL :: .l xs :: s.pv [.ss (withT cs xs)])) := by
  refine loop_of_rounds (C := orcE (tabT chk ovr lineS) plainL) (L := noLoops) (N := 100) (me := 20) (T := t2T nn) (T' := t2X nn) (orcE_ok tabT_ok plainL_ok) mixed noLoops_ok (by cases nn <;> kernel_rfl) (by cases nn <;> kernel_rfl) (X := Nat)
    (fun i => .i (xs.length : Int) :: .i (i : Int) :: .ss textsL :: .l xs :: s.pv [.ss (withT cs (xs.take i))]) (fun i => i ≤ xs.length) (fun i => xs.length - i) (fun _ => (.exit 2, .ss textsL :: .l xs :: s.pv [.ss (withT cs xs)])) ?_
  intro i hi
  have h := t2_round chk ovr lineS nn rd (xs.length : Int) (i : Int) textsL (withT cs (xs.take i)) xs s
  rcases Nat.lt_or_ge i xs.length with hlt | hge
  · have hx := allC_get hc hlt
    have e : withT cs (xs.take i) ++ [txt xs[i]] = withT cs (xs.take (i + 1)) := by
      unfold withT
      rw [List.take_succ_eq_append_getElem hlt, List.map_append, List.append_assoc]; rfl
    rw [decide_eq_true (show (i : Int) < (xs.length : Int) by omega), cond_true, atU_at hlt, decide_eq_true hx.2, Bool.not_true, cond_false] at h
    unfold atB at h
    rw [decide_eq_true (show 0 ≤ xs[i] ∧ xs[i] < 38 by omega), cond_true, txt_get hx] at h
    dsimp only at h
    rw [e, decide_eq_true (show (withT cs (xs.take (i + 1))).length * 17 ≤ 70368744177664 by unfold withT; rw [List.length_append, List.length_map, List.length_take]; omega), cond_true, wr64 (by omega) (by omega)] at h
    exact ⟨_, _, _, h, codes0, .inl ⟨rfl, i + 1, rfl, by omega, by omega, rfl⟩⟩
  · rw [decide_eq_false (show ¬ (i : Int) < (xs.length : Int) by omega), cond_false] at h
    obtain rfl : i = xs.length := by omega
    rw [List.take_length] at h
    refine ⟨_, _, _, (by rw [List.take_length]; exact h), codes0, .inr ⟨by simp, rfl⟩⟩
/-- The lines of a table, out of its cells. -/
def lineAt (cs : List ByteArray) (k : Nat) : ByteArray := lineS (qC cs ((4 * k : Nat) : Int) 0) (qC cs ((4 * k : Nat) : Int) 1) (qC cs ((4 * k : Nat) : Int) 2) (qC cs ((4 * k : Nat) : Int) 3)
def lns (cs : List ByteArray) : List ByteArray := (List.range ((cs.length + 3) / 4)).map (lineAt cs)
def smallC (cs : List ByteArray) : Bool := cs.all (fun s => decide (s.size ≤ 5)) && decide (cs.length ≤ 1001000)
theorem qC_small {cs : List ByteArray} (h : smallC cs = true) (i : Int) (k : Nat) : (qC cs i k).size ≤ 5 := by
  simp only [smallC, Bool.and_eq_true, List.all_eq_true, decide_eq_true_eq] at h
  unfold qC
  cases decide (k < (Int.ofNat cs.length).toNat - i.toNat) with
  | false => exact Nat.zero_le _
  | true =>
    rw [cond_true, List.getD_eq_getElem?_getD]
    cases hg : cs[i.toNat + k]? with
    | none => exact Nat.zero_le _
    | some s => exact h.1 s (List.mem_of_getElem? hg)
theorem t3_loop (nn : Bool) (rd : Option Nat) (tl : List ByteArray) (xs : List Int) (cs : List ByteArray) (hs : smallC cs = true) : ∀ k : Nat, k ≤ (cs.length + 3) / 4 →
    SimC Tryd.prog 2 rd (.loop t3Lp) ((t3T nn).at [.i ((4 * k : Nat) : Int), .ss tl, .l xs, .ss cs, .ss ((List.range k).map (lineAt cs))]) (.exit 4) ((t3X nn).at [.ss tl, .l xs, .ss (lns cs)]) := by
  refine loop_of_rounds (C := orcE (tabT chk ovr lineS) plainL) (L := noLoops) (N := 100) (me := 20) (T := t3T nn) (T' := t3X nn) (orcE_ok tabT_ok plainL_ok) mixed noLoops_ok (by cases nn <;> kernel_rfl) (by cases nn <;> kernel_rfl) (X := Nat)
    (fun k => [.i ((4 * k : Nat) : Int), .ss tl, .l xs, .ss cs, .ss ((List.range k).map (lineAt cs))]) (fun k => k ≤ (cs.length + 3) / 4) (fun k => (cs.length + 3) / 4 - k) (fun _ => (.exit 4, [.ss tl, .l xs, .ss (lns cs)])) ?_
  intro k hk
  have h := t3_round chk ovr lineS nn rd ((4 * k : Nat) : Int) tl cs ((List.range k).map (lineAt cs)) xs
  have hcl : cs.length ≤ 1001000 := by
    simp only [smallC, Bool.and_eq_true, decide_eq_true_eq] at hs; exact hs.2
  rcases Nat.lt_or_ge k ((cs.length + 3) / 4) with hlt | hge
  · have h4 : 4 * k < cs.length := by omega
    have e : (List.range k).map (lineAt cs) ++ [lineAt cs k] = (List.range (k + 1)).map (lineAt cs) := by rw [List.range_succ, List.map_append]; rfl
    have hq : q4 cs ((4 * k : Nat) : Int) = true := decide_eq_true ⟨qC_small hs _ _, qC_small hs _ _, qC_small hs _ _, qC_small hs _ _⟩
    have hof : Int.ofNat cs.length = (cs.length : Int) := rfl
    rw [show lineS (qC cs ((4 * k : Nat) : Int) 0) (qC cs ((4 * k : Nat) : Int) 1) (qC cs ((4 * k : Nat) : Int) 2) (qC cs ((4 * k : Nat) : Int) 3) = lineAt cs k from rfl, e, hof,
      decide_eq_true (show ((4 * k : Nat) : Int) < (cs.length : Int) by omega), cond_true, decide_eq_true (show 0 ≤ ((4 * k : Nat) : Int) ∧ ((4 * k : Nat) : Int) ≤ (cs.length : Int) ∧ (cs.length : Int) ≤ (cs.length : Int) from ⟨by omega, by omega, Int.le_refl _⟩), cond_true,
      decide_eq_true (show ((4 * k : Nat) : Int).toNat + ((cs.length : Int).toNat - ((4 * k : Nat) : Int).toNat) ≤ cs.length by omega), cond_true, hq, cond_true,
      decide_eq_true (show ((List.range (k + 1)).map (lineAt cs)).length * 17 ≤ 70368744177664 by rw [List.length_map, List.length_range]; omega), cond_true, wr64 (by omega) (by omega)] at h
    refine ⟨_, _, _, h, codes0, .inl ⟨rfl, k + 1, ?_, by omega, by omega, rfl⟩⟩
    rw [show ((4 * k : Nat) : Int) + 4 = ((4 * (k + 1) : Nat) : Int) by omega]
  · obtain rfl : k = (cs.length + 3) / 4 := by omega
    rw [decide_eq_false (show ¬ ((4 * ((cs.length + 3) / 4) : Nat) : Int) < Int.ofNat cs.length from fun hx => by have : ((4 * ((cs.length + 3) / 4) : Nat) : Int) < (cs.length : Int) := hx; omega), cond_false] at h
    exact ⟨_, _, _, h, codes0, .inr ⟨by simp, rfl⟩⟩
end Go.Proofs.YtnhilofmafjdpaaDoor

/- Chapter 9: Table for every list. -/
namespace Go.Proofs.YtnhilofmafjdpaaDoor
open Go Go.Eng
noncomputable def t1Tree (R1 : Int → List ByteArray) (nn : Bool) : List PV → Fin
  | .i n :: .i i :: .ss tl :: .l xs :: ps => match stP ps with
    | some (s, [.ss cs]) => .br (decide (i = 0 ∧ 0 ≤ n ∧ n < 256 ∧ cs.length = 0)) (.leaf (.exit 0) ((t1X nn).at (.ss tl :: .l xs :: s.pv [.ss (R1 n)]))) .no
    | _ => .no
  | _ => .no
def c2 (i n : Int) (xs : List Int) (cs : List ByteArray) : Bool := decide (i = 0 ∧ n = Int.ofNat xs.length ∧ xs.length ≤ 1000000 ∧ cs.length ≤ 300) && allC xs
noncomputable def t2Tree (C2 : Int → Int → List Int → List ByteArray → Bool) (R2 : List ByteArray → List Int → List ByteArray) (nn : Bool) : List PV → Fin
  | .i n :: .i i :: .ss tl :: .l xs :: ps => match stP ps with
    | some (s, [.ss cs]) => .br (C2 i n xs cs && pB (tl = textsL)) (.leaf (.exit 2) ((t2X nn).at (.ss tl :: .l xs :: s.pv [.ss (R2 cs xs)]))) .no
    | _ => .no
  | _ => .no
noncomputable def t3Tree (C3 : List ByteArray → Bool) (R3 : List ByteArray → List ByteArray) (nn : Bool) : List PV → Fin
  | [.i i, .ss tl, .l xs, .ss cs, .ss ts] => .br (decide (i = 0 ∧ ts.length = 0) && C3 cs) (.leaf (.exit 4) ((t3X nn).at [.ss tl, .l xs, .ss (R3 cs)])) .no
  | _ => .no
structure TbN where
  R1 : Int → List ByteArray
  C2 : Int → Int → List Int → List ByteArray → Bool
  R2 : List ByteArray → List Int → List ByteArray
  C3 : List ByteArray → Bool
  R3 : List ByteArray → List ByteArray
def tbN : TbN := ⟨dashes, c2, withT, smallC, lns⟩
noncomputable def tbL (N : TbN) (nn : Bool) : Loops := sums (fun n => match n with
  | 6 => some (lsumF 2 (t1T nn) t1Lp (t1Tree N.R1 nn)) | 10 => some (lsumF 2 (t2T nn) t2Lp (t2Tree N.C2 N.R2 nn)) | 19 => some (lsumF 2 (t3T nn) t3Lp (t3Tree N.C3 N.R3 nn)) | _ => none)
theorem tbL_ok (nn : Bool) : loopsOk Tryd.prog (tbL tbN nn) := by
  intro n g hg
  simp only [tbL, sums, tbN] at hg
  split at hg
  · cases hg
    refine lsumF_ok (by cases nn <;> kernel_rfl) (fun rd ps e1 st1 hq => ?_)
    unfold t1Tree at hq
    split at hq
    · rename_i n i tl xs ps
      split at hq
      · rename_i s cs hs
        rw [stP_ok hs]
        simp only [Fin.pick] at hq
        cases hc : decide (i = 0 ∧ 0 ≤ n ∧ n < 256 ∧ cs.length = 0) with
        | false => rw [hc] at hq; cases hq
        | true =>
          rw [hc, cond_true] at hq
          simp only [decide_eq_true_eq] at hc
          obtain ⟨rfl, h1, h2, h3⟩ := hc
          obtain rfl := List.eq_nil_of_length_eq_zero h3
          cases hq
          have := t1_loop nn rd n.toNat (by omega) tl xs s 0 (Nat.zero_le _)
          rw [show ((n.toNat : Nat) : Int) = n by omega] at this
          exact this
      · cases hq
    · cases hq
  · cases hg
    refine lsumF_ok (by cases nn <;> kernel_rfl) (fun rd ps e1 st1 hq => ?_)
    unfold t2Tree at hq
    split at hq
    · rename_i n i tl xs ps
      split at hq
      · rename_i s cs hs
        rw [stP_ok hs]
        simp only [Fin.pick] at hq
        cases hc : (c2 i n xs cs && pB (tl = textsL)) with
        | false => rw [hc] at hq; cases hq
        | true =>
          rw [hc, cond_true] at hq
          simp only [c2, Bool.and_eq_true, decide_eq_true_eq, pB_iff] at hc
          obtain ⟨⟨⟨rfl, rfl, h1, h2⟩, h3⟩, rfl⟩ := hc
          cases hq
          have := t2_loop nn rd xs h3 h1 cs h2 s 0 (Nat.zero_le _)
          rw [show withT cs (xs.take 0) = cs by simp [withT]] at this
          exact this
      · cases hq
    · cases hq
  · cases hg
    refine lsumF_ok (by cases nn <;> kernel_rfl) (fun rd ps e1 st1 hq => ?_)
    unfold t3Tree at hq
    split at hq
    · rename_i i tl xs cs ts
      simp only [Fin.pick] at hq
      cases hc : (decide (i = 0 ∧ ts.length = 0) && smallC cs) with
      | false => rw [hc] at hq; cases hq
      | true =>
        rw [hc, cond_true] at hq
        simp only [Bool.and_eq_true, decide_eq_true_eq] at hc
        obtain ⟨⟨rfl, h1⟩, h2⟩ := hc
        obtain rfl := List.eq_nil_of_length_eq_zero h1
        cases hq
        exact t3_loop nn rd tl xs cs h2 0 (Nat.zero_le _)
    · cases hq
  · cases hg
noncomputable abbrev evT (F : Int → List Int → FR) (CH : St → Int → Int) (OV : St → Bool) (LN : LNT) (N : TbN) (nn : Bool) (d : Int) (xs : List Int) := evalFn Tryd.prog (orc1 (tabT CH OV LN) F plainL) (tbL N nn) 100 20 Tryd.f20 [.int .u8 d, .gs 1] [.glob 0 (.strs textsL), .rs nn 1 (.ints .u8 xs)] keepX
end Go.Proofs.YtnhilofmafjdpaaDoor
